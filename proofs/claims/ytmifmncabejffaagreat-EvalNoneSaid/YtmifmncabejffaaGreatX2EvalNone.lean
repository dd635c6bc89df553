/-
  Contracts of the functions that the statement reaches, and the plain laws of what they reckon.
  Conditions: none.
-/
import Derived.Test.YtmifmncabejffaaGreatV1EvalNone
import Derived.Test.YtmifmncabejffaaGreatV2EvalNone
import Derived.Test.YtmifmncabejffaaGreatV3EvalNone
import Derived.Test.YtmifmncabejffaaGreatX1EvalNone
set_option linter.unusedVariables false
set_option linter.unusedSimpArgs false
set_option linter.unusedSectionVars false
set_option maxRecDepth 100000
namespace Go.Proofs.YtmifmncabejffaaGreat
open Go Go.Av
namespace BD
section
variable{σ:St}
def Found(l:List De)(f:De)(r:AV):Prop:=∃k:Nat,r= .tup [int k,boo (decide (f∈l))]∧k≤l.length∧(∀i (hi:i<k) (hl:i<l.length),B6 l[i] f<0)∧∀hk:k<l.length,¬B6 l[k] f<0
theorem I1{l:List De}{f:De}{k:Nat}(hr:Cp B6 l)(hk:k≤l.length)(h1:∀h:0<k,B6 (l[k-1]'(by omega)) f<0)(h2:∀h:k<l.length,¬B6 l[k] f<0){b:Bool}(hb:b=true↔∃h:k<l.length,B6 l[k] f=0):Found l f (.tup [int k,boo b]):=by
 have hr':=List.pairwise_iff_getElem.1 hr;have a1:∀i (hi:i<k) (hl:i<l.length),B6 l[i] f<0:=fun i hi hl=>by
  by_cases e:i=k-1
  ·subst e;exact h1 (by omega)
  ·exact Bw.trans _ _ _ (hr' i (k-1) hl (by omega) (by omega)) (h1 (by omega))
 refine⟨k,?_,hk,a1,h2⟩;have:b=decide (f∈l):=by
  rw[Bool.eq_iff_iff,hb,decide_eq_true_iff];constructor
  ·rintro⟨h,e⟩
   rw[←(Bw.zero _ _).1 e];exact List.getElem_mem h
  ·intro hm
   obtain⟨i,hi,e⟩:=List.getElem_of_mem hm;have hik:¬i<k:=fun h=>by
    have:=a1 i h hi;rw[e,Bw.self]at this;omega
   have hkl:k<l.length:=by omega
   by_cases e2:i=k
   ·subst e2
    exact⟨hi,by rw[e];exact Bw.self f⟩
   ·have:=hr' k i hkl hi (by omega)
    rw[e]at this;exact absurd this (h2 hkl)
 rw[this]
theorem Xw{i j:Nat}(h:i+j<9223372036854775807):IntKind.i64.wrap ((IntKind.u64.wrap (IntKind.i64.wrap ((i:Int)+j))).fdiv (2^min 1 64))=(((i+j)/2:Nat):Int):=by
 exact rqq14
theorem bsearch_at{lv:AV}(l:List De)(f:De)(hl:l.length≤4000000000000)(hs:∀y∈l,y.Sm)(hf:f.Sm)(hr:Cp B6 l)(h:Rd 6 σ lv (deC l)):AT Tryz.prog 135 [lv,.agg f.cs,fnv 136] σ fun r σ'=>Found l f r∧σ'=σ:=by
 refine AT.ob Tryz.func135 rfl ?_;simp only[go_sem];refine Ctx.nil.alloc fun p σ1 c1=>?_;have hp:=c1.g0;have hsub:=c1.sub;have h1:=h.keep hsub;clear c1;simp only[go_sem,Aa,h1.len,Bt];refine⟨fun m fr σ'=>∃i j:Nat,m=j-i∧i≤j∧j≤l.length∧(∀h:0<i,∀h2:i-1<l.length,B6 l[i-1] f<0)∧(∀h:j<l.length,¬B6 l[j] f<0)∧σ'=σ1∧fr 0=lv∧fr 2=fnv 136∧fr 4=ptr p∧fr 8=int l.length∧fr 9=int i∧fr 10=int j,⟨_,0,l.length,rfl,by omega,by omega,fun h=>by omega,fun h=>by omega,rfl,rfl,rfl,rfl,rfl,rfl,rfl⟩,?_⟩;rintro m fr σ1 ⟨i,j,rfl,hij,hjl,hI,hJ,rfl,f0,f2,f4,f8,f9,f10⟩;simp only[go_sem,f9,f10];refine aIf_by (fun hlt=>?_) (fun hlt=>?_)
 ·have hij':i<j:=by omega
  have hm:=Xw (i:=i) (j:=j) (by omega);obtain⟨q,hq⟩:∃q,q=(i+j)/2:=⟨_,rfl⟩;rw[←hq]at hm;have hql:q<l.length:=by omega
  simp only[go_sem,Aa,f9,f10,hm];refine Ag [.rd 0 false,.rd 1 false,.rd 2 false,.rd 3 false,.rd 4 true,.rd 5 true,.ef 6 [],.rd 7 false] ?_;simp only[go_sem,Aa,f0,f2,f4];refine h1.elem (by omega) (by rw[Bt];omega) fun e he=>?_;simp only[go_sem,Aa];refine he.load (by decide) (by rw[Int.toNat_natCast,H1 hql];exact Nat.le_refl _) ?_;simp only[go_sem,Aa,H1 hql,hp,f4];refine(Y6 l[q] f (hs _ (List.getElem_mem hql)) hf).p ?_;simp only[go_sem,Aa];refine aIf_by (fun hc=>?_) (fun hc=>?_)
  ·simp only[go_sem,Aa,f0,f2,f4,f8,f9,f10,A2 q (by omega)]
   refine⟨j-(q+1),by omega,q+1,j,rfl,by omega,hjl,fun _ h2=>?_,hJ,?_⟩
   ·exact hc
   ·(and_intros<;>first|assumption|rfl|omega)
  ·simp only[go_sem,Aa,f0,f2,f4,f8,f9,f10]
   refine⟨q-i,by omega,i,q,rfl,by omega,by omega,hI,fun _=>hc,?_⟩
   (and_intros<;>first|assumption|rfl|omega)
 ·have e:i=j:=by omega
  subst e;simp only[go_sem,Aa,f8,f9];refine Ag [.rd 0 false,.rd 1 false,.rd 2 false,.rd 3 false,.rd 4 false,.rd 5 false,.rd 6 false,.rd 7 false,.rd 8 false,.rd 9 true,.rd 10 true,.ef 11 [],.rd 12 false,.rd 13 false,.rd 14 false,.rd 15 false] ?_;by_cases hil:i<l.length
  ·have d1:=decide_eq_true (show(i:Int)<l.length by omega)
   simp only[go_sem,Aa,f0,f2,f4,f8,f9,d1];refine h1.elem (by omega) (by rw[Bt];omega) fun e he=>?_;simp only[go_sem,Aa];refine he.load (by decide) (by rw[Int.toNat_natCast,H1 hil];exact Nat.le_refl _) ?_;simp only[go_sem,Aa,H1 hil,hp,f4];refine(Y6 l[i] f (hs _ (List.getElem_mem hil)) hf).p ?_;simp only[go_sem,Aa,f9];refine Ae (r:=.tup [int i,boo (decide (B6 l[i] f=0))]) rfl _ σ (Ao hsub) ⟨I1 hr hjl (fun h=>hI h (by omega)) hJ ?_,rfl⟩;rw[decide_eq_true_iff];exact⟨fun h=>⟨hil,h⟩,fun⟨_,h⟩=>h⟩
  ·have d1:=decide_eq_false (show¬(i:Int)<l.length by omega)
   simp only[go_sem,Aa,f8,f9,d1];refine Ae (r:=.tup [int i,boo false]) rfl _ σ (Ao hsub) ⟨I1 hr hjl (fun h=>hI h (by omega)) hJ ?_,rfl⟩;exact⟨fun h=>(by cases h),fun⟨h,_⟩=>absurd h hil⟩
theorem erase_at{T:List De}{k:Nat}(hr:Cp B6 T){f:De}(hk:k≤T.length)(h1:∀i (hi:i<k) (hl:i<T.length),B6 T[i] f<0)(h2:∀hk:k<T.length,¬B6 T[k] f<0)(hm:f∈T):∃h:k<T.length,T[k]=f∧T.take k++T.drop (k+1)=T.filter fun x=>!decide (x=f):=by
 obtain⟨i,hi,e⟩:=List.getElem_of_mem hm;have hik:¬i<k:=fun h=>by
  have:=h1 i h hi;rw[e,Bw.self]at this;omega
 have hkl:k<T.length:=by omega
 have hr':=List.pairwise_iff_getElem.1 hr;have hki:k=i:=by
  rcases Nat.lt_or_ge k i with h|h
  ·have:=hr' k i hkl hi h
   rw[e]at this;exact absurd this (h2 hkl)
  ·omega
 subst hki;refine⟨hkl,e,?_⟩;have hne:∀j (hj:j<T.length),j≠k→T[j]≠f:=fun j hj hjk hf=>by
  rcases Nat.lt_or_gt_of_ne hjk with h|h
  ·have:=hr' j k hj hkl h
   rw[e,hf,Bw.self]at this;omega
  ·have:=hr' k j hkl hj h
   rw[e,hf,Bw.self]at this;omega
 conv=>rhs;rw[←List.take_append_drop k T]
 rw[List.filter_append,List.drop_eq_getElem_cons hkl,List.filter_cons_of_neg (by simp[e])]
 congr 1
 ·refine(List.filter_eq_self.2 fun x hx=>?_).symm
  obtain⟨j,hj,rfl⟩:=List.getElem_of_mem hx;rw[List.length_take]at hj;rw[List.getElem_take];simpa using hne j (by omega) (by omega)
 ·refine(List.filter_eq_self.2 fun x hx=>?_).symm
  obtain⟨j,hj,rfl⟩:=List.getElem_of_mem hx;rw[List.length_drop]at hj;rw[List.getElem_drop];simpa using hne (k+1+j) (by omega) (by omega)
end
end BD
namespace BD
section
variable{σ:St}
theorem clone_at(l:List De)(hl:l.length≤1000000000000):AT Tryz.prog 138 [.sl 6 (deC l)] σ fun r σ'=>Ow 6 σ' r (deC l)∧Cz σ σ' r:=by
 refine AT.ob Tryz.func138 rfl ?_;simp only[go_sem];by_cases he:deC l=[]
 ·refine⟨fun h=>absurd he h,fun _ b=>?_⟩
  refine aIf_bool (fun _=>?_) (fun _=>?_)
  ·simp only[go_sem]
   exact Ac (r:=Ax) rfl ⟨.inl ⟨he,.inl rfl⟩,.nil⟩
  ·simp only[go_sem]
   refine As (ys:=deC l) (by simp[src]) (by decide) (by decide) (by decide) ?_;rw[he];refine⟨rfl,fun _=>?_,fun h=>absurd rfl h⟩;simp only[go_sem];exact Ac (r:=.fsl 6 []) rfl ⟨.inl ⟨rfl,.inr rfl⟩,fun y p hy=>⟨hy,A3⟩⟩
 ·refine⟨fun _=>?_,fun h=>absurd h he⟩
  refine As (ys:=deC l) (by simp[src]) (by decide) (by decide) (by decide) (Ow.of_app .full he (by rw[Bt];simp only[List.length_nil];omega) fun lv σ1 h1 h2 _=>?_);simp only[go_sem];exact Ac (r:=lv) rfl ⟨h1,fun y p hy=>h2 y p hy A3⟩
def Ug(σ:St)(v:AV)(es:List (List AV))(r:AV)(σ':St):Prop:=Ow 6 σ' r es∧∀y o,σ y=some o→¬Own v y→σ' y=some o∧¬Own r y
theorem insert_at{v:AV}(l:List De)(f:De)(i:Nat)(hi:i≤l.length)(hl:l.length≤1000000000000)(h:Ow 6 σ v (deC l)):AT Tryz.prog 165 [v,int i,.fsl 6 [f.cs]] σ (Ug σ v (deC (l.take i++f::l.drop i))):=by
 refine AT.ob Tryz.func165 rfl ?_;simp only[go_sem];refine h.lat.from (by decide) (by omega) (by rw[Bt];omega) fun _ _=>?_;have d1:decide ((1:Int)=0)=false:=rfl;simp only[go_sem,h.lat.len,Bt];refine aIf_by (fun hin=>?_) (fun hin=>?_)
 ·have e:i=l.length:=by omega
  subst e;simp only[go_sem];refine As (ys:=[f.cs]) (by rfl) (by decide) (by decide) (by decide) (Ow.of_app h.lat (by simp) (by rw[Bt];simp only[List.length_cons,List.length_nil];omega) fun r σ1 h1 h2 _=>?_);simp only[go_sem];refine Ac (r:=r) rfl ⟨?_,h2⟩;rw[show l.take l.length++f::l.drop l.length=l++[f] by simp];rw[show deC l++[f.cs]=deC (l++[f]) by simp[deC]]at h1;exact h1
 ·have hil:i<l.length:=by omega
  rcases h with⟨h0,_⟩|⟨b,cap,rfl,hcap,hb⟩
  ·have:=congrArg List.length h0
   rw[Bt,List.length_nil]at this;omega
  have fl:=Bt l;rw[fl]at hcap;obtain⟨A,y,B,hA,hL⟩:∃(A:List (List AV)) (y:List AV) (B:List (List AV)),A.length=i∧deC l=A++y::B:=by
   refine⟨(deC l).take i,(deC l)[i]'(by omega),(deC l).drop (i+1),by rw[List.length_take];omega,?_⟩;rw[←List.drop_eq_getElem_cons,List.take_append_drop]
  have hB:B.length=l.length-(i+1):=by
   have:=congrArg List.length hL;rw[fl,List.length_append,List.length_cons]at this;omega
  have hdr:(deC l).drop i=y::B:=by rw[hL,List.drop_append,hA,List.drop_of_length_le (by omega)];simp
  have htk:(deC l).take i=A:=by rw[hL,List.take_append,List.take_of_length_le (by omega),hA];simp
  have fin:A++f.cs::y::B=deC (l.take i++f::l.drop i):=by
   rw[←hdr,←htk];simp[deC,List.map_take,List.map_drop]
  have finl:(deC (l.take i++f::l.drop i)).length=l.length+1:=by simp[deC];omega
  have w1:IntKind.i64.wrap ((l.length:Int)+1)=((l.length+1:Nat):Int):=Kz (by omega);have w2:IntKind.i64.wrap (((l.length+1:Nat):Int)-i)=((l.length+1-i:Nat):Int):=by rw[Ai (by omega)];omega
  have w3:IntKind.i64.wrap ((i:Int)+1)=((i+1:Nat):Int):=Kz (by omega);simp only[go_sem,w1];refine aIf_by (fun hc=>?_) (fun hc=>?_)
  ·
   have hsz:4≤1000:=by decide
   simp only[go_sem,w1,w2];refine D3 (h:=i) rfl (by omega) ?_;simp only[go_sem,w1,w2];refine Uq rfl hb (by rw[fl];omega) (by decide) (by decide) (by decide) (by omega) (by omega) (by omega) fun b' c' hb' hc'=>?_;obtain⟨z,hz⟩:∃z:List AV,z=[Value.int .i64 0,.string ⟨#[]⟩,.string ⟨#[]⟩,.string ⟨#[]⟩,.slice none 0 0,.slice none 0 0].map AV.v:=⟨_,rfl⟩;have hbb:b≠b':=fun e=>by rw[←e,hb]at hb';cases hb'
   have ez:i+(l.length+1-i)=l.length+1:=by omega
   rw[ez]at hc'⊢;have e0:(deC l).take i++List.replicate (l.length+1-i) z=A++z::List.replicate (l.length-i) z:=by
    rw[htk,show l.length+1-i=(l.length-i)+1 by omega,List.replicate_succ]
   rw[←hz,e0];have el:(A++z::List.replicate (l.length-i) z).length=l.length+1:=by simp;omega
   simp only[go_sem];refine Ba (p:=i*6) rfl (by omega) (by omega) (by omega) ?_;simp only[go_sem];refine Fb (m:=i) (ys:=[f.cs]) rfl Ab (by decide) (by simp[cut];omega) (by rw[el];omega) (by simp only[List.length_cons,List.length_nil];omega) ?_;rw[show List.take i (A++z::List.replicate (l.length-i) z)++[f.cs]++List.drop (i+ [f.cs].length) (A++z::List.replicate (l.length-i) z)=A++f.cs::List.replicate (l.length-i) z from spl1 hA,B5];have el2:(A++f.cs::List.replicate (l.length-i) z).length=l.length+1:=by simp;omega
   obtain⟨σ2,e2⟩:∃σ2,σ2=σ.set b' (.rows 6 (A++f.cs::List.replicate (l.length-i) z) false c'):=⟨_,rfl⟩;have g1:σ2 b'=some (.rows 6 (A++f.cs::List.replicate (l.length-i) z) false c'):=by rw[e2];exact Ab
   have g2:σ2 b=some (.rows 6 (deC l) false cap):=by rw[e2,Ad hbb];exact hb
   have g3:∀y o,σ y=some o→σ2 y=some o∧y≠b':=fun y o hy=>by
    have:y≠b':=fun e=>by rw[e,hb']at hy;cases hy
    exact⟨by rw[e2,Ad this];exact hy,this⟩
   rw[←e2];clear e2 el;simp only[go_sem];refine Ag [.rd 0 false,.rd 1 false,.rd 2 false,.rd 3 false,.rd 4 true,.rd 5 false,.rd 6 false,.rd 7 true,.ef 8 []] ?_;simp only[go_sem,w3];refine Cy (l:=i+1) (p:=(i+1)*6) rfl rfl (by omega) (by omega) (by omega) ?_;simp only[go_sem];refine Ba (p:=i*6) rfl (by omega) (by omega) (by omega) ?_;simp only[go_sem];refine Fb (m:=i+1) (ys:=y::B) rfl g1 (by decide) ?_ (by omega) (by simp only[List.length_cons];omega) ?_
   ·rw[Oa (m:=i) rfl (by decide) g2 (by rw[fl];omega)]
    rw[List.take_of_length_le (by rw[List.length_drop,fl];omega),hdr]
   simp only[go_sem];refine Ac (r:=slv b' (l.length+1) c') rfl ⟨.inr ⟨b',c',by rw[finl],by rw[finl];omega,?_⟩,fun y o hy hn=>?_⟩
   ·rw[Ab]
    have:=spl2 (x:=f.cs) (B:=y::B) (R:=List.replicate (l.length-i) z) hA (by simp;omega);rw[List.length_cons,fin]at this;rw[this]
   ·obtain⟨h1,h2⟩:=g3 y o hy
    exact⟨by rw[Ad h2];exact h1,fun ho=>h2 (Bg.1 ho)⟩
  ·simp only[go_sem,w1]
   refine D3 (h:=l.length+1) rfl (by omega) ?_;simp only[go_sem,w3];refine Cy (l:=i+1) (p:=(i+1)*6) rfl rfl (by omega) (by omega) (by omega) ?_;simp only[go_sem];refine(Z9 (P:=Tryz.prog) Tryz.func211 rfl rfl (by kernel_rfl) rfl rfl tk74 hb (by decide) (by decide) (by omega)).p ?_;simp only[go_sem,Bool.not_false];refine Ag [.rd 0 false,.rd 1 false,.rd 2 false,.rd 3 false,.rd 4 true,.rd 5 false,.rd 6 false,.rd 7 true,.ef 8 []] ?_;simp only[go_sem,w3];refine Cy (l:=i+1) (p:=(i+1)*6) rfl rfl (by omega) (by omega) (by omega) ?_;simp only[go_sem];refine Ba (p:=i*6) rfl (by omega) (by omega) (by omega) ?_;simp only[go_sem];refine Fb (m:=i+1) (ys:=y::B) rfl hb (by decide) ?_ (by omega) (by simp only[List.length_cons];omega) ?_
   ·rw[Oa (m:=i) rfl (by decide) hb (by rw[fl];omega)]
    rw[List.take_of_length_le (by rw[List.length_drop,fl];omega),hdr]
   simp only[go_sem];refine Ba (p:=i*6) rfl (by omega) (by omega) (by omega) ?_;simp only[go_sem];refine Fb (m:=i) (ys:=[f.cs]) rfl Ab (by decide) (by simp[cut];omega) (by simp;omega) (by simp only[List.length_cons,List.length_nil];omega) ?_;simp only[go_sem];refine Ac (r:=slv b (l.length+1) cap) rfl ⟨.inr ⟨b,cap,by rw[finl],by rw[finl];omega,?_⟩,fun y o hy hn=>?_⟩
   ·rw[Ab,←fin,hL]
    have:=spl3 (x:=f.cs) (B:=B) (y:=y) hA;rw[List.length_cons]at this;rw[this]
   ·have hy2:y≠b:=fun e=>hn (Bg.2 e)
    exact⟨by rw[Ad hy2];exact hy,fun ho=>hy2 (Bg.1 ho)⟩
theorem delete_at{v:AV}(l:List De)(i:Nat)(hi:i<l.length)(hl:l.length≤1000000000000)(h:Ow 6 σ v (deC l)):AT Tryz.prog 137 [v,int i,int (i+1:Nat)] σ (Ug σ v (deC (l.take i++l.drop (i+1)))):=by
 refine AT.ob Tryz.func137 rfl ?_;have fl:=Bt l;rcases h with⟨h0,_⟩|⟨b,cap,rfl,hcap,hb⟩
 ·have:=congrArg List.length h0
  rw[Bt,List.length_nil]at this;omega
 have hL:LAt 6 σ (slv b (deC l).length cap) (deC l):=.inr (.inr ⟨b,cap,rfl,hcap,hb⟩);rw[fl]at hcap hL⊢;have d1:decide ((i:Int)=((i+1:Nat):Int))=false:=decide_eq_false (by omega);simp only[go_sem];refine R7 (l:=i) (h:=i+1) (m:=l.length) rfl rfl rfl (by omega) (by omega) (by omega) fun _=>?_;simp only[go_sem,d1];refine Ag [.rd 0 false,.rd 1 false,.rd 2 true,.rd 3 false,.rd 4 false,.rd 5 true,.ef 6 [],.rd 7 false] ?_;simp only[go_sem];refine D3 (h:=i) rfl (by omega) ?_;simp only[go_sem];refine hL.from (by decide) (by omega) (by rw[fl];omega) fun x hx=>?_;simp only[go_sem];refine As (ys:=(deC l).drop (i+1)) (by rw[hx _ _ hL];simp) (by decide) (by decide) (by decide) (.inr (.inr (.inl ⟨rfl,?_⟩)));simp only[hb];refine⟨trivial,by rw[fl];omega,trivial,by rw[List.length_drop,fl];omega,by rw[List.length_drop,fl];omega,?_⟩;have e1:i+((deC l).drop (i+1)).length=l.length-1:=by rw[List.length_drop,fl];omega
 rw[e1];obtain⟨E,hE⟩:∃E,E=(deC l).take i++(deC l).drop (i+1)++(deC l).drop (l.length-1):=⟨_,rfl⟩;have eL:E.length=l.length:=by rw[hE];simp[fl];omega
 rw[←hE];simp only[go_sem];refine Mh (l:=l.length-1) (h:=l.length) (p:=(l.length-1)*6) (by omega) (by omega) rfl (by omega) (by omega) (by omega) ?_;simp only[go_sem];have e2:l.length-(l.length-1)=1:=by omega
 rw[e2];refine Hg (l:=l.length-1) rfl Ab (by decide) (by decide) (by rw[eL];omega) (by decide) ?_;simp only[go_sem];have e3:E.take (l.length-1)=deC (l.take i++l.drop (i+1)):=by
  rw[hE,List.take_append_of_le_length (by simp[fl];omega),List.take_of_length_le (by simp[fl];omega)];simp[deC,List.map_take,List.map_drop]
 refine Ae (r:=slv b (l.length-1) cap) rfl _ _ (Ht (m:=l.length-1) _ Ab) ?_;rw[B5];have el:(deC (l.take i++l.drop (i+1))).length=l.length-1:=by simp[deC];omega
 refine⟨.inr ⟨b,cap,by rw[el],by rw[el];omega,?_⟩,fun y o hy hn=>?_⟩
 ·rw[Ab,List.append_assoc,List.take_append_of_le_length (by rw[List.length_take,eL];omega),List.take_take,Nat.min_self,e3]
 ·have hy2:y≠b:=fun e=>hn (Bg.2 e)
  exact⟨by rw[Ad hy2];exact hy,fun ho=>hy2 (Bg.1 ho)⟩
end
end BD
def De.csv(d:De)(v:AV):List AV:=[int d.ru,str d.hd.at',str d.hd.by',str d.hd.pr,.sl 3 (cnC d.hd.ar),v]
theorem De.csv_one(d:De){v:AV}(h:v.one=true):(d.csv v).all AV.one=true:=by
 show(true&&(true&&(true&&(true&&(true&&(v.one&&true))))))=true;rw[h];rfl
@[go_sem] theorem De.csv_len(d:De)(v:AV):(d.csv v).length=6:=rfl
@[go_sem] theorem De.csv_take(d:De)(v:AV):(d.csv v).take 6=d.csv v:=rfl
@[go_sem] theorem De.csv_5(d:De)(v:AV):(d.csv v).getD 5 (.v undef)=v:=rfl
theorem Wp{x:Fa}{l:List Fa}{i:Nat}(h:i<l.length)(hx:l[i]=x):(faC l).set i (Au ((faC l).getD i []) 3 [.sl 3 (cnC x.ar)])=faC l:=by
 rw[Bc h,hx];refine List.ext_getElem (by simp) fun j h1 h2=>?_;rw[List.getElem_set];split
 ·rename_i e
  subst e;simp only[faC,List.getElem_map,hx];rfl
 ·rfl
section
variable{σ:St}
theorem X6(d:De)(hd:d.Sm):AT Tryz.prog 166 [.agg d.cs] σ fun r σ'=>r= .agg d.cs∧σ'=σ:=by
 refine AT.ob Tryz.func166 rfl ?_;obtain⟨hd1,hd2,hd3⟩:=hd;simp only[go_sem];refine Ctx.nil.alloc fun p σ1 c1=>?_;simp only[go_sem];refine c1.alloc fun q σ2 c2=>?_;have hq:=c2.g1.1.1;have hp:=c2.g1.1.2;have hpq:=c2.g1.2;have hs:=c2.sub;have fp:=c1.f0;have fq:=c2.f0;clear c1 c2;simp only[go_sem,hp];refine(Gd d.hd.ar hd1).p ?_;have e1:Au d.cs 4 [.sl 3 (cnC d.hd.ar)]=d.cs:=rfl;have e2:σ2.set p (.cells d.cs)=σ2:=Bv hp;simp only[go_sem,hp,e1,e2];refine(BF.clone_at d.bo (by omega)).mono ?_;rintro v σ3 ⟨hO,hG⟩;have hp3:=(hG _ _ hp);have hq3:=(hG _ _ hq);have e3:Au d.cs 5 [v]=d.csv v:=rfl;have o3:=d.csv_one hO.lat.one;obtain⟨σ4,e4⟩:∃σ4,σ4=σ3.set p (.cells (d.csv v)):=⟨_,rfl⟩;have hp4:σ4 p=some (.cells (d.csv v)):=by rw[e4];exact Ab
 have hq4:∃cs,σ4 q=some (.cells cs)∧cs.length=6:=⟨_,by rw[e4,Ad hpq.1];exact hq3.1,rfl⟩;have hO4:Ow 4 σ4 v (faC d.bo):=hO.keep fun y o hy ho=>by rw[e4,Ad (fun e=>by rw[e]at ho;exact hp3.2 ho)];exact hy
 have hs4:∀y o,σ y=some o→σ4 y=some o∧¬Own v y∧y≠p∧y≠q:=fun y o hy=>by
  have h1:y≠p:=fun e=>by rw[e,fp]at hy;cases hy
  have h2:y≠q:=fun e=>by rw[e,fq]at hy;cases hy
  have h3:=hG _ _ (hs _ _ hy);exact⟨by rw[e4,Ad h1];exact h3.1,h3.2,h1,h2⟩
 simp only[go_sem,Aa,hp3.1,hO.lat.one,hO.lat.cells,e3,←e4,hp4,hO4.lat.len,Am];refine⟨fun m fr σ'=>∃i:Nat,m=d.bo.length-i∧i≤d.bo.length∧σ'=σ4∧fr 1=ptr p∧fr 2=ptr q∧fr 16=int d.bo.length∧fr 17=int i,⟨_,0,rfl,by omega,rfl,rfl,rfl,rfl,rfl⟩,?_⟩;clear e4;rintro m fr σ4 ⟨i,rfl,hi,rfl,f1,f2,f16,f17⟩;simp only[go_sem,f16,f17];refine aIf_by (fun hlt=>?_) (fun hlt=>?_)
 ·have hil:i<d.bo.length:=by omega
  have fl:=Am d.bo;rcases hO4 with⟨h0,_⟩|⟨b,cap,rfl,hcap,hb⟩
  ·have:=congrArg List.length h0
   rw[Am,List.length_nil]at this;omega
  have e5:=Wp hil rfl;have e6:σ4.set b (.rows 4 (faC d.bo) false cap)=σ4:=Bv hb;have sx:=hd3 _ (List.getElem_mem hil);rw[fl]at hcap;simp only[go_sem,Aa,f1,f17];refine Ag [.rd 0 false,.rd 1 true,.rd 2 false,.rd 3 false,.rd 4 true,.rd 5 false,.rd 6 false,.rd 7 false,.rd 8 true,.ef 9 [1],.rd 10 false,.rd 11 false,.ef 12 []] ?_;simp only[go_sem,Aa,f1,f17,hp4,hb,Bc hil,fl];refine⟨by omega,by omega,(Gd d.bo[i].ar sx).p ?_⟩;simp only[go_sem,Aa,f1,f2,f16,f17,hp4,hb,fl,e5,e6,A2 i (by omega)];refine⟨by omega,by omega,d.bo.length-(i+1),by omega,i+1,?_⟩
  (and_intros<;>first|assumption|rfl|omega)
 ·obtain⟨cs,hq5,hql⟩:=hq4
  have dr6:cs.drop 6=[]:=List.drop_eq_nil_of_le (by omega);simp only[go_sem,Aa,f1,f2,hp4,hq5,o3,dr6,hql];refine Jo σ (.agg d.cs) f2 Ab Amw rfl rfl (view_of (Jg fun x o' hx=>.inl ?_) (.agg _ _ rfl ?_)) ⟨rfl,rfl⟩
  ·obtain⟨h1,_,_,h4⟩:=hs4 x o' hx
   rw[Ad h4];exact h1
  ·have hv:VW (σ4.set q (.cells (d.csv v))) σ v (.sl 4 (faC d.bo)):=by
    have hO5:LAt 4 (σ4.set q (.cells (d.csv v))) v (faC d.bo):=hO4.lat.keep fun y o hy ho=>by
     have:y≠q:=fun e=>by subst e;exact hO4.lat.not_own hq5 ho
     rw[Ad this];exact hy
    refine hO5.vw_same fun x hx=>?_;cases hsx:σ x with
    |none=>rfl
    |some o=>exact absurd hx (hs4 x o hsx).2.1
   exact(vws_same (vws_same (vws_same (vws_same (vws_same (vws_cons hv Cm)))))).2
end
def BK(σ:St)(t:Nat)(B:List De):Prop:=σ t=some (.cells [.sl 6 (deC B),boo true])
def bkC(B:List De):Bn:=.cells [.sl 6 (deC B),boo true]
structure BOk(B:List De):Prop where
 rises:Cp B6 B
 len:B.length≤900000000000
 sm:∀d∈B,d.Sm
section
variable{σ:St}{t:Nat}{B:List De}
theorem Afu:AT Tryz.prog 52 [] σ fun r σ'=>∃b,σ b=none∧r=ptr b∧σ'=σ.set b (bkC []):=by
 refine AT.ob Tryz.func52 rfl ?_;simp only[go_sem];refine Al fun b hb hbn=>?_;simp only[go_sem];refine Ae (r:=ptr b) rfl (ptr b) (σ.set b (bkC [])) ?_ ⟨b,hb,rfl,rfl⟩;have hS:SV (σ.set b (.cells [Ax,boo true])) (σ.set b (bkC [])):=K8 Ab (show OW _ _ (.cells _) (.cells _)from vws_cons (.nil 6) (Ch _)) fun x p hx hp=>by rw[Ad hx];exact hp
 exact view_of hS (.refl _)
theorem Lh(h:BK σ t B):AT Tryz.prog 121 [ptr t] σ fun r σ'=>r=boo false∧σ'=σ:=by
 refine AT.ob Tryz.func121 rfl ?_;unfold BK at h;simp only[go_sem,h,Bool.not_true];exact Ac (r:=boo _) rfl ⟨rfl,rfl⟩
theorem Aft(h:BK σ t B)(hB:BOk B)(d:De)(hd:d.Sm):AT Tryz.prog 107 [ptr t,.agg d.cs] σ fun r σ'=>r=boo (!decide (d∈B))∧σ'=σ.set t (bkC (By B6 d B)):=by
 refine AT.ob Tryz.func107 rfl ?_;simp only[go_sem];refine Ctx.nil.alloc fun p σ1 c1=>?_;have hp:=c1.g0;have hs:=c1.sub;have h1:BK σ1 t B:=hs _ _ h;clear c1;simp only[go_sem];refine(Lh h1).p ?_;have hT':=h1;unfold BK at hT';simp only[go_sem];refine Ag [.rd 0 false,.rd 1 false,.rd 2 false,.rd 3 true,.rd 4 true,.ef 5 [],.rd 6 false,.rd 7 false,.rd 8 false,.rd 9 false,.rd 10 false] ?_;simp only[go_sem,hp,hT'];have tlen:=hB.len;refine(BD.bsearch_at B d (by omega) hB.sm hd hB.rises .sl).mono ?_;rintro _ σ1 ⟨⟨k,rfl,hk1,hk2,hk3⟩,rfl⟩;have hins:=I4 (c:=B6) hk1 hk2 hk3;by_cases hm:d∈B
 ·have d3:=decide_eq_true hm
  simp only[go_sem,d3,Bool.not_true];have e:By B6 d B=B:=by
   obtain⟨h,e,_⟩:=BD.erase_at hB.rises hk1 hk2 hk3 hm;rw[if_pos ⟨h,(Bw.zero _ _).2 e⟩]at hins;exact hins
  exact Ae (r:=boo false) rfl _ σ (Ao hs) ⟨rfl,by rw[e];exact(Bv h).symm⟩
 ·have d3:=decide_eq_false hm
  simp only[go_sem,d3,Bool.not_false];refine Ag [.rd 0 false,.rd 1 false,.rd 2 false,.rd 3 false,.rd 4 true,.rd 6 false,.rd 7 true,.ef 5 [7],.ef 8 [],.rd 9 false,.ef 10 [],.rd 11 false,.rd 12 false,.ef 13 []] ?_;simp only[go_sem,hT',hp];refine(BD.clone_at B (by omega)).mono ?_;rintro v σ2 ⟨hO,hG⟩;have hp2:=(hG _ _ hp).1;have ht2:=(hG _ _ hT').1;simp only[go_sem];refine⟨fun k hk=>?_,(X6 d hd).mono ?_⟩
  ·simp only[go_sem,hp2]
   exact hk
  rintro _ σ2 ⟨rfl,rfl⟩;simp only[go_sem];refine(BD.insert_at B d k hk1 (by omega) hO).mono ?_;rintro r σ3 ⟨hO3,hK⟩;have hL:=hO3.lat;rw[if_neg (fun⟨h,e⟩=>hm (by rw[←(Bw.zero _ _).1 e];exact List.getElem_mem h))]at hins;rw[←hins]at hL;have ht3:=(hK _ _ ht2 (hG _ _ hT').2);simp only[go_sem,ht3.1,hL.one,hL.cells];refine Ae (r:=boo true) rfl (boo true) (σ.set t (bkC (By B6 d B))) ?_ ⟨rfl,rfl⟩;refine Md (lv:=r) Ab h (hL.keep fun y o hy ho=>?_) fun y o hyt hy=>?_
  ·rw[Ad (fun e=>by rw[e]at ho;exact ht3.2 ho)];exact hy
  ·have h2:=hG _ _ (hs _ _ hy)
   have h3:=hK _ _ h2.1 h2.2;exact⟨by rw[Ad hyt];exact h3.1,h3.2⟩
theorem Acp(h:BK σ t B)(hB:BOk B)(d:De)(hd:d.Sm):AT Tryz.prog 79 [ptr t,.agg d.cs] σ fun r σ'=>r=boo (decide (d∈B))∧σ'=σ.set t (bkC (B.filter fun x=>!decide (x=d))):=by
 refine AT.ob Tryz.func79 rfl ?_;simp only[go_sem];refine Ctx.nil.alloc fun p σ1 c1=>?_;have hp:=c1.g0;have hs:=c1.sub;have h1:BK σ1 t B:=hs _ _ h;clear c1;simp only[go_sem];refine(Lh h1).p ?_;have hT':=h1;unfold BK at hT';simp only[go_sem];refine Ag [.rd 0 false,.rd 1 false,.rd 2 false,.rd 3 true,.rd 4 true,.ef 5 [],.rd 6 false,.rd 7 false,.rd 8 false,.rd 9 false,.rd 10 false] ?_;simp only[go_sem,hp,hT'];have tlen:=hB.len;refine(BD.bsearch_at B d (by omega) hB.sm hd hB.rises .sl).mono ?_;rintro _ σ1 ⟨⟨k,rfl,hk1,hk2,hk3⟩,rfl⟩;by_cases hm:d∈B
 case neg=>
  have d3:=decide_eq_false hm;simp only[go_sem,d3];have e:(B.filter fun x=>!decide (x=d))=B:=List.filter_eq_self.2 fun x hx=>by
   have:x≠d:=fun e=>hm (e▸hx);simpa using this
  exact Ae (r:=boo false) rfl _ σ (Ao hs) ⟨rfl,by rw[e];exact(Bv h).symm⟩
 have d3:=decide_eq_true hm;obtain⟨hkl,_,her⟩:=BD.erase_at hB.rises hk1 hk2 hk3 hm;simp only[go_sem,d3,hT'];refine(BD.clone_at B (by omega)).mono ?_;rintro v σ2 ⟨hO,hG⟩;have ht2:=(hG _ _ hT').1;simp only[go_sem,A2 k (by omega)];refine(BD.delete_at B k hkl (by omega) hO).mono ?_;rintro r σ3 ⟨hO3,hK⟩;have hL:=hO3.lat;rw[her]at hL;have ht3:=(hK _ _ ht2 (hG _ _ hT').2);simp only[go_sem,ht3.1,hL.one,hL.cells];refine Ae (r:=boo true) rfl (boo true) (σ.set t (bkC (B.filter fun x=>!decide (x=d)))) ?_ ⟨rfl,rfl⟩;refine Md (lv:=r) Ab h (hL.keep fun y o hy ho=>?_) fun y o hyt hy=>?_
 ·rw[Ad (fun e=>by rw[e]at ho;exact ht3.2 ho)];exact hy
 ·have h2:=hG _ _ (hs _ _ hy)
  have h3:=hK _ _ h2.1 h2.2;exact⟨by rw[Ad hyt];exact h3.1,h3.2⟩
end
theorem Wr{α:Type}{p:α→Bool}{l:List α}{j:Nat}(h:j<l.length):(l.take (j+1)).filter p=(l.take j).filter p++(if p l[j]=true then[l[j]]else[]):=by
 rw[List.take_add_one,List.getElem?_eq_getElem h,List.filter_append];cases hb:p l[j]<;>simp[hb]
theorem Adt{α:Type}{p:α→Bool}{l:List α}{j:Nat}:((l.take j).filter p).length≤l.length:=Nat.le_trans (List.length_filter_le _ _) (by rw[List.length_take];omega)
section
variable{σ:St}{t g c:Nat}{B:List De}
theorem Aao(h:BK σ t B)(hB:BOk B)(p:De→Bool)(hC:∀σ',(∀x o,σ x=some o→σ' x=some o)→∀d∈B,AT Tryz.prog g [.agg d.cs,ptr c] σ' fun r σ''=>r=boo (p d)∧σ''=σ'):AT Tryz.prog 124 [ptr t,clo g c] σ fun r σ'=>r= .sl 6 (deC (B.filter p))∧σ'=σ:=by
 have hm:AT Tryz.prog 124 [ptr t,clo g c] σ fun r σ'=>LAt 6 σ' r (deC (B.filter p))∧Cz σ σ' r:=by
  refine AT.ob Tryz.func124 rfl ?_;simp only[go_sem];refine(Lh h).p ?_;have h0:=h;unfold BK at h0;have tlen:=hB.len;simp only[go_sem,Aa,h0,Bt];refine⟨fun m fr σ'=>∃(i:Nat) (lv:AV),m=B.length-i∧i≤B.length∧LAt 6 σ' lv (deC ((B.take i).filter p))∧Cz σ σ' lv∧fr 1=clo g c∧fr 5=lv∧fr 13= .sl 6 (deC B)∧fr 14=int B.length∧fr 15=int i,⟨_,0,Ax,rfl,by omega,.none,.nil,rfl,rfl,rfl,rfl,rfl⟩,?_⟩;rintro m fr σ1 ⟨i,lv,rfl,hi,hL,hG,f1,f5,f13,f14,f15⟩;simp only[go_sem,f14,f15];refine aIf_by (fun hlt=>?_) (fun hlt=>?_)
  ·have hil:i<B.length:=by omega
   have hdm:=List.getElem_mem hil;have hf:=Wr (p:=p) hil;have hfl:=Adt (p:=p) (l:=B) (j:=i);simp only[go_sem,Aa,f13,f15,H1 hil,Bt];refine⟨by omega,Ctx.nil.alloc fun q σ2 c2=>?_⟩;obtain⟨σ3,e3,c3⟩:=c2.abs 0 rfl (.cells B[i].cs);have hq:=c3.g0;have hs3:=c3.sub;simp only at hq;have hG3:Cz σ σ3 lv:=fun y o hy=>⟨hs3 _ _ (hG y o hy).1,(hG y o hy).2⟩;have hL3:LAt 6 σ3 lv (deC ((B.take i).filter p)):=hL.keep fun y o hy _=>hs3 y o hy;simp only[go_sem,Aa,c2.g0,e3,f1,hq];clear e3 c3 c2;refine(hC σ3 hG3.sub _ hdm).p ?_;cases hp:p B[i]with
   |false=>
    rw[hp,if_neg (by simp),List.append_nil]at hf;rw[←hf]at hL3;simp only[go_sem,Aa,f1,f5,f13,f14,f15,A2 i (by omega)];refine⟨B.length-(i+1),by omega,i+1,lv,?_⟩
    (and_intros<;>first|assumption|rfl|omega)
   |true=>
    rw[hp,if_pos rfl]at hf;simp only[go_sem,Aa,f5,hq];refine(X6 B[i] (hB.sm _ hdm)).p ?_;simp only[go_sem,Aa,f5];refine As (ys:=[B[i].cs]) (by rfl) (by decide) (by decide) (by decide) (hL3.app (by rw[Bt];simp only[List.length_cons,List.length_nil];omega) fun lv' σ4 h1 h2=>?_);rw[show deC ((B.take i).filter p)++[B[i].cs]=deC ((B.take (i+1)).filter p) by rw[hf];simp[deC]]at h1;have hG4:=hG3.step h2;simp only[go_sem,Aa,f1,f13,f14,f15,A2 i (by omega)];refine⟨B.length-(i+1),by omega,i+1,lv',?_⟩
    (and_intros<;>first|assumption|rfl|omega)
  ·rw[List.take_of_length_le (by omega)]at hL
   simp only[go_sem,Aa,f5];exact Ac (r:=lv) rfl ⟨hL,hG⟩
 exact hm.post (by kernel_rfl) fun r σ' ⟨h1,h2⟩=>⟨_,_,H9 h1 h2,rfl,rfl⟩
theorem Ak0(f:Fa)(d:De)(hf:f.Sm)(hd:d.Sm)(hc:σ c=some (.cells f.cs)):AT Tryz.prog 125 [.agg d.cs,ptr c] σ fun r σ'=>r=boo (decide (d.hd=f))∧σ'=σ:=by
 refine AT.ob Tryz.func125 rfl ?_;simp only[go_sem];refine Ctx.nil.alloc fun p σ1 c1=>?_;simp only[go_sem,c1.g0,c1.sub _ _ hc];refine(Gx d.hd f hd.1 hf).p ?_;simp only[go_sem];exact Ae (r:=boo _) rfl _ σ (c1.view _) ⟨by rw[decide_eq_decide.2 (Ap.zero d.hd f)],rfl⟩
def ofF(B:List De)(f:Fa):List De:=B.filter fun d=>decide (d.hd=f)
theorem Aer(h:BK σ t B)(hB:BOk B)(f:Fa)(hf:f.Sm):AT Tryz.prog 72 [ptr t,.agg f.cs] σ fun r σ'=>r= .sl 6 (deC (ofF B f))∧σ'=σ:=by
 refine AT.ob Tryz.func72 rfl ?_;simp only[go_sem];refine Ctx.nil.alloc fun p σ1 c1=>?_;simp only[go_sem];simp only[Dx,B7];simp only[go_sem];refine(Aao (show BK σ1 t B from c1.sub _ _ h) hB (fun d=>decide (d.hd=f)) fun σ' hs d hd=>Ak0 f d hf (hB.sm d hd) (hs _ _ c1.g0)).p ?_;simp only[go_sem];exact Ae (r:=.sl 6 _) rfl _ σ (c1.view _) ⟨rfl,rfl⟩
theorem Afh(f:Fa)(d:De)(hf:f.Sm)(hd:d.Sm)(hc:σ c=some (.cells f.cs)):AT Tryz.prog 134 [.agg d.cs,ptr c] σ fun r σ'=>r=boo (decide (f∈d.bo))∧σ'=σ:=by
 refine AT.ob Tryz.func134 rfl ?_;simp only[go_sem];refine Ctx.nil.alloc fun p σ1 c1=>?_;simp only[go_sem,c1.g0,c1.sub _ _ hc];refine(Zt d.bo f hd.2.1 hd.2.2 hf).p ?_;simp only[go_sem];exact Ae (r:=boo _) rfl _ σ (c1.view _) ⟨rfl,rfl⟩
def useF(B:List De)(f:Fa):List De:=B.filter fun d=>decide (f∈d.bo)
theorem Aip(h:BK σ t B)(hB:BOk B)(f:Fa)(hf:f.Sm):AT Tryz.prog 78 [ptr t,.agg f.cs] σ fun r σ'=>r= .sl 6 (deC (useF B f))∧σ'=σ:=by
 refine AT.ob Tryz.func78 rfl ?_;simp only[go_sem];refine Ctx.nil.alloc fun p σ1 c1=>?_;simp only[go_sem];simp only[Dx,B7];simp only[go_sem];refine(Aao (show BK σ1 t B from c1.sub _ _ h) hB (fun d=>decide (f∈d.bo)) fun σ' hs d hd=>Afh f d hf (hB.sm d hd) (hs _ _ c1.g0)).p ?_;simp only[go_sem];exact Ae (r:=.sl 6 _) rfl _ σ (c1.view _) ⟨rfl,rfl⟩
end
def Ft(s:List Fa×Bool)(d:De):List Fa×Bool:=if d.hd∈s.1 then s else if∀x∈d.bo,x∈s.1 then(By A4 d.hd s.1,true)else s
def rnd(B:List De)(out:List Fa):List Fa×Bool:=B.foldl Ft (out,false)
def Tc(B:List De):Nat→List Fa→List Fa
 |0,out=>out
 |n+1,out=>if(rnd B out).2=true then Tc B n (rnd B out).1 else(rnd B out).1
def Rr(B:List De)(out:List Fa):Nat:=(B.filter fun d=>!decide (d.hd∈out)).length
def Fe(B:List De)(base:List Fa):List Fa:=Tc B (B.length+1) (Cc A4 [] base)
theorem Ab2{s:List Fa×Bool}{d:De}{x:Fa}(h:x∈s.1):x∈(Ft s d).1:=by
 unfold Ft;split
 ·exact h
 ·split
  ·exact(Fq Ap).2 (.inr h)
  ·exact h
theorem Qc{x:Fa}:∀{B:List De} {s:List Fa×Bool},x∈s.1→x∈(B.foldl Ft s).1
 | [],s,h=>h
 |d::B,s,h=>Qc (B:=B) (Ab2 h)
theorem Qd:∀{B:List De} {s:List Fa×Bool},s.2=false→(B.foldl Ft s).2=true→∃d∈B,d.hd∉s.1∧d.hd∈(B.foldl Ft s).1
 | [],s,h,h2=>by rw[List.foldl_nil,h]at h2;cases h2
 |d::B,s,h,h2=>by
  rw[List.foldl_cons]at h2⊢;by_cases h1:d.hd∈s.1
  ·have e:Ft s d=s:=by unfold Ft;rw[if_pos h1]
   rw[e]at h2⊢;obtain⟨x,hx,k⟩:=Qd h h2;exact⟨x,List.mem_cons_of_mem _ hx,k⟩
  ·by_cases h3:∀x∈d.bo,x∈s.1
   ·have e:Ft s d=(By A4 d.hd s.1,true):=by unfold Ft;rw[if_neg h1,if_pos h3]
    refine⟨d,by simp,h1,Qc ?_⟩;rw[e];exact(Fq Ap).2 (.inl rfl)
   ·have e:Ft s d=s:=by unfold Ft;rw[if_neg h1,if_neg h3]
    rw[e]at h2⊢;obtain⟨x,hx,k⟩:=Qd h h2;exact⟨x,List.mem_cons_of_mem _ hx,k⟩
theorem Adu{α:Type}{p q:α→Bool}:∀{l:List α},(∀x∈l,q x=true→p x=true)→(∃x∈l,p x=true∧q x=false)→(l.filter q).length<(l.filter p).length
 | [],_,⟨x,hx,_⟩=>by cases hx
 |a::l,h,⟨x,hx,h1,h2⟩=>by
  have hle:(l.filter q).length≤(l.filter p).length:=by
   clear hx h1 h2;have h':∀x∈l,q x=true→p x=true:=fun x hx=>h x (List.mem_cons_of_mem _ hx);clear h
   induction l with
   |nil=>simp
   |cons b l ih=>
    have:=ih fun x hx=>h' x (List.mem_cons_of_mem _ hx);cases hq:q b with
    |true=>rw[List.filter_cons_of_pos hq,List.filter_cons_of_pos (h' b (by simp) hq)];simpa using this
    |false=>
     rw[List.filter_cons_of_neg (by simp[hq])];cases hp:p b with
     |true=>rw[List.filter_cons_of_pos hp];simp;omega
     |false=>rw[List.filter_cons_of_neg (by simp[hp])];exact this
  rcases List.mem_cons.1 hx with rfl|hx
  ·rw[List.filter_cons_of_neg (by simp[h2]),List.filter_cons_of_pos h1];simp;omega
  ·have ih:=Adu (fun x hx=>h x (List.mem_cons_of_mem _ hx)) ⟨x,hx,h1,h2⟩
   cases hq:q a with
   |true=>rw[List.filter_cons_of_pos hq,List.filter_cons_of_pos (h a (by simp) hq)];simpa using ih
   |false=>
    rw[List.filter_cons_of_neg (by simp[hq])];cases hp:p a with
    |true=>rw[List.filter_cons_of_pos hp];simp;omega
    |false=>rw[List.filter_cons_of_neg (by simp[hp])];exact ih
theorem Aht{B:List De}{out:List Fa}(h:(rnd B out).2=true):Rr B (rnd B out).1<Rr B out:=by
 obtain⟨d,hd,h1,h2⟩:=Qd (B:=B) (s:=(out,false)) rfl h;refine Adu (fun x hx hq=>?_) ⟨d,hd,by simpa using h1,?_⟩
 ·simp only[Bool.not_eq_true',decide_eq_false_iff_not]at hq⊢
  exact fun hm=>hq (Qc (B:=B) (s:=(out,false)) hm)
 ·simp only[Bool.not_eq_false',decide_eq_true_eq]
  exact h2
theorem J4{t:Tm}{c:Cn}{env e:List Bi}(h:B0 t c env=some e):e.length≤env.length+1:=by
 unfold B0 at h;split at h
 ·split at h
  ·injection h with h;subst h;omega
  ·cases h
 ·split at h
  ·cases h
  ·injection h with h;subst h;simp
theorem Afg{l:List (Tm×Cn)}:∀{env e:List Bi},Ic l env=some e→e.length≤env.length+l.length:=by
 induction l with
 |nil=>intro env e h;injection h with h;subst h;simp
 |cons p l ih=>
  intro env e h;obtain⟨m,h1,h2⟩:=Option.bind_eq_some_iff.1 h;have:=J4 h1;have:=ih h2;simp only[List.length_cons];omega
theorem Zz{ho:Tm}{l:Li}{f:Fa}{env e:List Bi}(h:Fi ho l f env=some e):e.length≤env.length+l.ar.length+2:=by
 unfold Fi at h;split at h
 ·have:=Afg h
  unfold eqs at this;simp only[List.length_cons,List.length_append,List.length_zip]at this;split at this<;>simp only[List.length_nil,List.length_cons]at this<;>omega
 ·cases h
theorem Ws{l m:List (Tm×Cn)}:∀{env:List Bi},Ic (l++m) env=(Ic l env).bind (Ic m):=by
 induction l with
 |nil=>intro env;rfl
 |cons p l ih=>
  intro env;show(B0 p.1 p.2 env).bind (Ic (l++m))=_;cases h:B0 p.1 p.2 env with
  |none=>simp[Ic,h]
  |some e=>simp only[Option.bind_some,Ic,h];exact ih
theorem Acd{a:List Tm}{b:List Cn}{i:Nat}(h1:i<a.length)(h2:i<b.length)(env:List Bi):Ic ((a.take (i+1)).zip (b.take (i+1))) env=(Ic ((a.take i).zip (b.take i)) env).bind (B0 a[i] b[i]):=by
 rw[List.take_add_one,List.take_add_one,List.getElem?_eq_getElem h1,List.getElem?_eq_getElem h2,List.zip_append (by simp;omega),Ws]
 congr 1
 funext e;simp[Ic]
def Kc(ho:Tm)(l:Li)(f:Fa)(env:List Bi):Option (List Bi):=(B0 (orT l.at' ho) (nmC f.at') env).bind fun e=>if l.by'= .zero then(if f.by'=f.at' then some e else none)else B0 l.by' (nmC f.by') e
theorem Aeb{ho:Tm}{l:Li}{f:Fa}{env:List Bi}:Fi ho l f env=if l.nm=f.pr∧l.ar.length=f.ar.length then(Kc ho l f env).bind (Ic (l.ar.zip f.ar))else none:=by
 unfold Fi fits eqs Kc;by_cases h:l.nm=f.pr∧l.ar.length=f.ar.length
 ·rw[if_pos h,decide_eq_true h.1,decide_eq_true h.2]
  simp only[Bool.true_and];by_cases h0:l.by'= .zero
  ·rw[if_pos h0]
   by_cases h1:f.by'=f.at'
   ·rw[if_pos (by simp[h1])]
    simp only[Ic,List.nil_append,h0,h1,if_true];cases B0 (orT l.at' ho) (nmC f.at') env<;>rfl
   ·rw[if_neg (by simp[h0,h1])]
    simp only[h0,h1,if_true,if_false];cases B0 (orT l.at' ho) (nmC f.at') env<;>rfl
  ·rw[if_neg h0,if_pos (by simp[h0])]
   simp only[Ic,List.cons_append,List.nil_append,h0,if_false];cases B0 (orT l.at' ho) (nmC f.at') env<;>rfl
 ·rw[if_neg h,if_neg]
  intro h';simp only[Bool.and_eq_true,decide_eq_true_eq]at h';exact h h'.1
section
variable{P:Program}{res:List ResultVar}{fr:Fr}{σ σ':St}{o:Option (List Bi)}
theorem Jd(hr:Bj P fr σ' res=some (.tup [Ax,boo false]))(hs:∀y o,σ y=some o→σ' y=some o)(ho:o=none):Fp P (fun r σ''=>r=K6 o∧σ''=σ) res fr σ':=
 Ae hr (K6 none) σ (Me hs _) ⟨by rw[ho],rfl⟩
theorem Ah8{e:List Bi}(hr:Bj P fr σ' res=some (.tup [.sl 4 (biC e),boo true]))(hs:∀y o,σ y=some o→σ' y=some o)(ho:o=some e):Fp P (fun r σ''=>r=K6 o∧σ''=σ) res fr σ':=
 Ae hr (K6 (some e)) σ (Ao hs) ⟨by rw[ho],rfl⟩
end
theorem V1{ho:Tm}{l:Li}{f:Fa}{env:List Bi}(h:¬(l.nm=f.pr∧l.ar.length=f.ar.length)):Fi ho l f env=none:=by rw[Aeb,if_neg h]
theorem Ahx{ho:Tm}{l:Li}{f:Fa}{env:List Bi}(h1:l.nm=f.pr)(h2:l.ar.length=f.ar.length):Fi ho l f env=(Kc ho l f env).bind (Ic (l.ar.zip f.ar)):=by rw[Aeb,if_pos ⟨h1,h2⟩]
def Dz(first:Int)(f:Fa)(l:List Fa)(k:Nat):List Fa:=if(k:Int)=first then[f]else l
theorem Aku{l:List Li}{i:Nat}(h:i<l.length):l.getD i .zero=l[i]:=by simp[List.getD_eq_getElem?_getD,h]
section
variable{σ:St}
theorem Aea(ho:Tm)(l:Li)(f:Fa)(env:List Bi)(hl:env.length≤100000)(ha:l.ar.length≤100000):AT Tryz.prog 160 [.agg ho.cs,.agg l.cs,.agg f.cs,.sl 4 (biC env)] σ fun r σ'=>r=K6 (Fi ho l f env)∧σ'=σ:=by
 refine AT.ob Tryz.func160 rfl ?_;simp only[go_sem];refine Ctx.nil.alloc fun p σ1 c1=>?_;simp only[go_sem];refine c1.alloc fun q σ2 c2=>?_;simp only[go_sem];refine c2.alloc fun x σ3 c3=>?_;by_cases h1:l.nm=f.pr
 ·simp only[go_sem,c3.g2,h1]
  refine aIf_by (fun h2=>?_) (fun h2=>?_)
  ·have h2:l.ar.length=f.ar.length:=by omega
   have hlf:=Ahx (ho:=ho) (env:=env) h1 h2;simp only[go_sem];refine Ag [.rd 0 false,.rd 1 true,.rd 2 true,.rd 4 false,.rd 5 true,.rd 7 false,.ef 3 [5],.ef 6 [],.ef 8 [],.rd 9 false,.rd 10 false,.rd 11 false,.rd 12 false,.rd 13 false] ?_;simp only[go_sem,c3.g2];refine(Aev l.at' ho).p ?_;simp only[go_sem,c3.g2];refine(Uc f.at').p ?_;simp only[go_sem,c3.g2];refine(Ji (orT l.at' ho) (nmC f.at') env (by omega)).p ?_;simp only[go_sem];cases hu:B0 (orT l.at' ho) (nmC f.at') env with
   |none=>
    have hn:Fi ho l f env=none:=by rw[hlf];unfold Kc;rw[hu];rfl
    simp only[go_sem];exact Jd rfl c3.sub hn
   |some e=>
    have he:=J4 hu;simp only[go_sem,c3.g2];refine Afd ?_;simp only[go_sem];refine D8 (fun fr σ'=>∃(b:Bool) (e2:List Bi),σ'=σ3∧(b=true→Kc ho l f env=some e2)∧(b=false→Fi ho l f env=none)∧e2.length≤env.length+2∧fr 3= .sl 4 (biC e2)∧fr 5=ptr q∧fr 6=ptr x∧fr 10=boo b) (fun h0=>?_) (fun h0=>?_) ?_
    ·simp only[go_sem,c3.g2]
     refine⟨decide (f.by'=f.at'),e,?_⟩;have g1:decide (f.by'=f.at')=true→Kc ho l f env=some e:=fun h3=>by unfold Kc;rw[hu];simp[h0,of_decide_eq_true h3]
     have g2:decide (f.by'=f.at')=false→Fi ho l f env=none:=fun h3=>by rw[hlf];unfold Kc;rw[hu];simp[h0,of_decide_eq_false h3]
     (and_intros<;>first|assumption|rfl|omega)
    ·simp only[go_sem]
     refine Ag [.rd 0 false,.rd 1 true,.rd 2 false,.rd 3 true,.rd 5 false,.ef 4 [1],.ef 6 [],.rd 7 false,.rd 8 false,.rd 9 false,.rd 10 false,.rd 11 false] ?_;simp only[go_sem,c3.g2];refine(Uc f.by').p ?_;simp only[go_sem,c3.g2];refine(Ji l.by' (nmC f.by') e (by omega)).p ?_;simp only[go_sem];refine⟨(B0 l.by' (nmC f.by') e).isSome,(B0 l.by' (nmC f.by') e).getD [],?_⟩;have g1:(B0 l.by' (nmC f.by') e).isSome=true→Kc ho l f env=some ((B0 l.by' (nmC f.by') e).getD []):=fun h3=>by
      obtain⟨y,hy⟩:=Option.isSome_iff_exists.1 h3;unfold Kc;rw[hu];simp[h0,hy]
     have g2:(B0 l.by' (nmC f.by') e).isSome=false→Fi ho l f env=none:=fun h3=>by
      rw[Option.isSome_eq_false_iff,Option.isNone_iff_eq_none]at h3;rw[hlf];unfold Kc;rw[hu];simp[h0,h3]
     have g3:((B0 l.by' (nmC f.by') e).getD []).length≤env.length+2:=by
      cases hv:B0 l.by' (nmC f.by') e with
      |none=>simp
      |some y=>have:=J4 hv;simp only[Option.getD_some];omega
     (and_intros<;>first|assumption|rfl|omega)
    rintro fr σ4 ⟨b,e2,rfl,g1,g2,hl2,f3,f5,f6,f10⟩;simp only[go_sem,Aa,f5,c3.g2];refine⟨fun m fr σ''=>∃(i:Nat) (b:Bool) (ei:List Bi),m=l.ar.length-i∧i≤l.ar.length∧Ctx σ [(x,.cells f.cs),(q,.cells l.cs),(p,.cells ho.cs)] σ''∧(b=true→(Kc ho l f env).bind (Ic ((l.ar.take i).zip (f.ar.take i)))=some ei)∧(b=false→Fi ho l f env=none)∧ei.length≤env.length+2+i∧fr 3= .sl 4 (biC ei)∧fr 6=ptr x∧fr 10=boo b∧fr 61= .sl 4 (tmC l.ar)∧fr 62=int l.ar.length∧fr 63=int i,⟨_,0,b,e2,rfl,by omega,c3,fun h=>(by rw[g1 h];rfl),g2,by omega,f3,f6,f10,rfl,rfl,rfl⟩,?_⟩;clear f3 f5 f6 f10 g1 g2 c3 c2 c1 hl2 hu he;rintro m fr σ4 ⟨i,b,ei,rfl,hi,c3,g1,g2,hli,f3,f6,f10,f61,f62,f63⟩;simp only[go_sem,f62,f63];refine aIf_by (fun hlt=>?_) (fun hlt=>?_)
    ·have hil:i<l.ar.length:=by omega
     have hif:i<f.ar.length:=by omega
     simp only[go_sem,Aa,f61,f63,J3 hil];refine⟨by omega,c3.alloc fun r σ5 c4=>?_⟩;obtain⟨σ6,e6,c5⟩:=c4.abs 0 rfl (.cells l.ar[i].cs);simp only[go_sem,c4.g3,e6,f10];cases b with
     |false=>
      simp only[go_sem,f10];exact Jd rfl c5.sub (g2 rfl)
     |true=>
      have g1:=g1 rfl;simp only[go_sem,Aa];refine Ag [.rd 0 true,.rd 1 false,.rd 2 true,.rd 3 false,.rd 4 false,.rd 5 true,.rd 6 false,.ef 7 [],.rd 8 false,.rd 9 false,.rd 10 false,.rd 11 false,.rd 12 false] ?_;simp only[go_sem,Aa,f3,f6,f10,f63,c5.g3,N8 hif];refine⟨by omega,(Ji l.ar[i] f.ar[i] ei (by omega)).p ?_⟩;simp only[go_sem,Aa,f6,f61,f62,f63,A2 i (by omega)];have hs:(Kc ho l f env).bind (Ic ((l.ar.take (i+1)).zip (f.ar.take (i+1))))=B0 l.ar[i] f.ar[i] ei:=by
       cases hA:Kc ho l f env with
       |none=>rw[hA]at g1;cases g1
       |some a=>
        rw[hA]at g1;rw[Option.bind_some]at g1⊢;rw[Acd hil hif,g1];rfl
      refine⟨l.ar.length-(i+1),by omega,i+1,(B0 l.ar[i] f.ar[i] ei).isSome,(B0 l.ar[i] f.ar[i] ei).getD [],?_⟩;have k1:(B0 l.ar[i] f.ar[i] ei).isSome=true→(Kc ho l f env).bind (Ic ((l.ar.take (i+1)).zip (f.ar.take (i+1))))=some ((B0 l.ar[i] f.ar[i] ei).getD []):=fun h3=>by
       obtain⟨y,hy⟩:=Option.isSome_iff_exists.1 h3;rw[hs,hy];rfl
      have k2:(B0 l.ar[i] f.ar[i] ei).isSome=false→Fi ho l f env=none:=fun h3=>by
       rw[Option.isSome_eq_false_iff,Option.isNone_iff_eq_none]at h3;rw[h3]at hs;have e1:l.ar.zip f.ar=(l.ar.take (i+1)).zip (f.ar.take (i+1))++(l.ar.drop (i+1)).zip (f.ar.drop (i+1)):=by
        rw[←List.zip_append (by simp;omega),List.take_append_drop,List.take_append_drop]
       rw[hlf,e1];cases hA:Kc ho l f env with
       |none=>rfl
       |some a=>
        rw[hA,Option.bind_some]at hs;rw[Option.bind_some,Ws,hs];rfl
      have k3:((B0 l.ar[i] f.ar[i] ei).getD []).length≤env.length+2+(i+1):=by
       cases hv:B0 l.ar[i] f.ar[i] ei with
       |none=>simp
       |some y=>have:=J4 hv;simp only[Option.getD_some];omega
      have k4:=c5.tl
      (and_intros<;>first|assumption|rfl|omega)
    ·simp only[go_sem,Aa,f3,f10]
     cases b with
     |false=>
      simp only[go_sem];exact Jd rfl c3.sub (g2 rfl)
     |true=>
      have g1:=g1 rfl;rw[List.take_of_length_le (by omega),List.take_of_length_le (by omega)]at g1;simp only[go_sem,f3];exact Ah8 rfl c3.sub (by rw[hlf,g1])
  ·have hn:Fi ho l f env=none:=V1 fun h=>h2 (by rw[h.2])
   simp only[go_sem];exact Jd rfl c3.sub hn
 ·have hn:Fi ho l f env=none:=V1 fun h=>h1 h.1
  simp only[go_sem,c3.g2,h1];exact Jd rfl c3.sub hn
end
section
variable{σ:St}{lv:AV}{vs:List ByteArray}
theorem Ad7(l:Li)(ha:l.ar.length≤1000000)(hl:vs.length≤1000000000000)(h:Rd 1 σ lv (stC vs)):AT Tryz.prog 159 [.agg l.cs,lv] σ fun r σ'=>r=int (knL l vs)∧σ'=σ:=by
 refine AT.ob Tryz.func159 rfl ?_;simp only[go_sem];refine Al fun b hb _=>?_;simp only[go_sem,Aa,Ab];refine As (ys:=tmC l.ar) (by simp[src]) (by decide) (by decide) (by decide) (LAt.full.app (by rw[Mj];simp;omega) fun lw σ1 hw hs=>?_);have hno:∀x,¬Own (.fsl 4 [l.by'.cs]) x:=fun x ⟨n,c,e⟩=>by cases e
 have hs1:∀x o,σ x=some o→σ1 x=some o:=fun x o hx=>(hs x o (A9 hb (fun _ _ h=>h) x o hx) (hno x)).1;have hw:LAt 4 σ1 lw (tmC (l.by'::l.ar)):=hw;obtain⟨ts,hts⟩:∃ts,ts=l.by'::l.ar:=⟨_,rfl⟩
 have htl:ts.length≤1000001:=by subst hts;simp;omega
 rw[←hts]at hw;simp only[go_sem,Aa,hw.len];refine⟨fun m fr σ'=>∃i:Nat,m=ts.length-i∧i≤ts.length∧(∀x o,σ1 x=some o→σ' x=some o)∧fr 1=lv∧fr 13=lw∧fr 14=int ts.length∧fr 15=int i∧fr 5=int (knS (ts.take i) vs),⟨_,0,rfl,by omega,fun _ _ h=>h,rfl,rfl,rfl,rfl,rfl⟩,?_⟩;clear hb;rintro m fr σ2 ⟨i,rfl,h1,h2,f1,f13,f14,f15,f5⟩;simp only[go_sem,f13,f14,f15];refine aIf_by (fun hlt=>?_) (fun hlt=>?_)
 ·have hi:i<ts.length:=by omega
  have hw2:LAt 4 σ2 lw (tmC ts):=hw.keep fun x o hx _=>h2 x o hx;simp only[go_sem,Aa,f13,f15];refine hw2.elem (by omega) (by rw[Mj];omega) fun p hp=>?_;simp only[go_sem,Aa];refine hp.load (by omega) (by rw[Int.toNat_natCast,J3 hi];exact Nat.le_refl 4) ?_;simp only[go_sem,J3 hi];refine Al fun c hc hcn=>?_;have h3:∀x o,σ1 x=some o→x≠c:=fun x o hx=>hcn x o (h2 x o hx);have e:knS (ts.take (i+1)) vs=_:=Ad6 vs hi;have hk:=Ad5 vs (ts.take i);have hk2:=Ajj ts[i] vs;rw[List.length_take]at hk;simp only[go_sem,Aa,Ab];refine Aj1 ?_;have go:∀x o,σ1 x=some o→(σ2.set c (.cells ts[i].cs)) x=some o:=fun x o hx=>by
   rw[Ad (h3 x o hx)];exact h2 x o hx
  have hr:Rd 1 (σ2.set c (.cells ts[i].cs)) lv (stC vs):=h.keep fun x o hx=>go x o (hs1 x o hx);by_cases g1:ts[i]= .zero
  ·have ek:kn ts[i] vs=0:=by unfold kn;rw[if_neg (fun h=>h.1 g1)]
   simp only[go_sem,Aa,decide_eq_true g1,Bool.not_true,f15,f14,f13,f5,f1,A2 i (by omega)];refine⟨ts.length-(i+1),by omega,i+1,rfl,by omega,go,rfl,by rw[e,ek];rfl⟩
  by_cases g2:ts[i].v=emp
  ·have ek:kn ts[i] vs=1:=by unfold kn;rw[if_pos ⟨g1,.inl g2⟩]
   simp only[go_sem,Aa,decide_eq_false g1,Bool.not_false,Ab,decide_eq_true g2,f15,f14,f13,f5,f1,A2 i (by omega),Kz (show knS (ts.take i) vs<9223372036854775807 by omega)];refine⟨ts.length-(i+1),by omega,i+1,rfl,by omega,go,rfl,by rw[e,ek]⟩
  ·simp only[go_sem,Aa,decide_eq_false g1,Bool.not_false,Ab,decide_eq_false g2,f1]
   refine(Xp hl hr).p ?_;simp only[go_sem,Aa,decide_eq_false g1,Bool.not_false,decide_eq_false g2];refine aIf_by (fun g3=>?_) (fun g3=>?_)
   ·have ek:kn ts[i] vs=1:=by unfold kn;rw[if_pos ⟨g1,.inr g3⟩]
    simp only[go_sem,Aa,f15,f14,f13,f5,f1,A2 i (by omega),Kz (show knS (ts.take i) vs<9223372036854775807 by omega)];exact⟨ts.length-(i+1),by omega,i+1,rfl,by omega,go,rfl,by rw[e,ek]⟩
   ·have ek:kn ts[i] vs=0:=by unfold kn;rw[if_neg (fun h=>h.2.elim g2 g3)]
    simp only[go_sem,Aa,f15,f14,f13,f5,f1,A2 i (by omega)];exact⟨ts.length-(i+1),by omega,i+1,rfl,by omega,go,rfl,by rw[e,ek];rfl⟩
 ·simp only[go_sem,Aa,f5]
  rw[List.take_of_length_le (by omega)];refine Ae (r:=int (knS ts vs)) rfl _ σ (Ao fun x o hx=>h2 x o (hs1 x o hx)) ⟨by rw[hts];rfl,rfl⟩
end
structure CV(q:Nat)(σ:St)(p:Nat)(lv:AV)(es:List (List AV)):Prop where
 cell:σ p=some (.cells [lv])
 lat:LAt q σ lv es
def Off(p:Nat)(lv:AV)(x:Nat):Prop:=x≠p∧¬Own lv x
section
variable{q:Nat}{σ σ' σ1:St}{p:Nat}{lv lw:AV}{es es':List (List AV)}
theorem CV.keep(h:CV q σ p lv es)(hs:∀x o,σ x=some o→¬Off p lv x→σ' x=some o):CV q σ' p lv es:=
 ⟨hs _ _ h.cell fun e=>e.1 rfl,h.lat.keep fun x o hx ho=>hs x o hx fun e=>e.2 ho⟩
theorem CV.some(h:CV q σ p lv es){x:Nat}(hx:¬Off p lv x):∃o,σ x=Option.some o:=by
 by_cases e:x=p
 ·exact⟨_,e▸h.cell⟩
 ·by_cases e2:Own lv x
  ·obtain⟨c,hc⟩:=h.lat.own_rows e2
   exact⟨_,hc⟩
  ·exact absurd ⟨e,e2⟩ hx
theorem CV.off(h:CV q σ p lv es){x:Nat}{ob:Bn}(hx:σ x=Option.some ob)(n1:∀a,ob≠.cells [a])(n2:∀es f c,ob≠.rows q es f c):Off p lv x:=
 ⟨fun e=>by subst e;exact n1 _ (Option.some.inj (hx.symm.trans h.cell)),fun e=>by obtain⟨c,hc⟩:=h.lat.own_rows e;exact n2 _ _ _ (Option.some.inj (hx.symm.trans hc))⟩
theorem CV.step(h:CV q σ p lv es)(hw:LAt q σ1 lw es')(hs:∀x o,σ x=Option.some o→¬Own lv x→σ1 x=Option.some o∧¬Own lw x):
  CV q (σ1.set p (.cells [lw])) p lw es'∧∀x o,σ x=Option.some o→Off p lv x→(σ1.set p (.cells [lw])) x=Option.some o∧Off p lw x:=by
 have h1:=hs p _ h.cell (h.lat.not_own h.cell);refine⟨⟨Ab,Ahu hw h1.1 h1.2⟩,fun x o hx ho=>?_⟩;have h2:=hs x o hx ho.2;exact⟨by rw[Ad ho.1];exact h2.1,ho.1,h2.2⟩
end
def PO(β σ:St)(o v:Nat)(out:List Int)(vs:List ByteArray):Prop:=
 ∃lo lw,CV 1 σ o lo (inC out)∧CV 1 σ v lw (stC vs)∧(∀x,Off o lo x∨Off v lw x)∧∀x p,β x=some p→σ x=some p∧Off o lo x∧Off v lw x
section
variable{β σ:St}{o v:Nat}{ou:List Int}{vs:List ByteArray}
theorem PO.sub(h:PO β σ o v ou vs):∀x p,β x=some p→σ x=some p:=by
 obtain⟨lo,lw,h1,h2,h3,h4⟩:=h;exact fun x p hx=>(h4 x p hx).1
theorem PO.keep(h:PO β σ o v ou vs){σ':St}(hs:∀x p,σ x=some p→σ' x=some p):PO β σ' o v ou vs:=by
 obtain⟨lo,lw,h1,h2,h3,h4⟩:=h;exact⟨lo,lw,h1.keep fun x p hx _=>hs x p hx,h2.keep fun x p hx _=>hs x p hx,h3,fun x p hx=>⟨hs x p (h4 x p hx).1,(h4 x p hx).2⟩⟩
theorem PO.weak(h:PO β σ o v ou vs){γ:St}(hs:∀x p,γ x=some p→β x=some p):PO γ σ o v ou vs:=by
 obtain⟨lo,lw,h1,h2,h3,h4⟩:=h;exact⟨lo,lw,h1,h2,h3,fun x p hx=>h4 x p (hs x p hx)⟩
theorem PO.new(h:PO β σ o v ou vs){c:Nat}{ob:Bn}(hc:σ c=none):PO β (σ.set c ob) o v ou vs:=by
 obtain⟨lo,lw,h1,h2,h3,h4⟩:=h;have hs:∀x p,σ x=some p→(σ.set c ob) x=some p:=A9 hc fun _ _ h=>h;exact⟨lo,lw,h1.keep fun x p hx _=>hs x p hx,h2.keep fun x p hx _=>hs x p hx,h3,fun x p hx=>⟨hs x p (h4 x p hx).1,(h4 x p hx).2⟩⟩
theorem PO.base(h:PO β σ o v ou vs):∃γ,PO γ σ o v ou vs∧(∀x p,β x=some p→γ x=some p)∧∀x p,σ x=some p→(∀a,p≠.cells [a])→(∀es f c,p≠.rows 1 es f c)→γ x=some p:=by
 obtain⟨lo,lw,h1,h2,h3,h4⟩:=h;refine⟨fun x=>open Classical in if Off o lo x∧Off v lw x then σ x else none,⟨lo,lw,h1,h2,h3,fun x p hx=>?_⟩,fun x p hx=>?_,fun x p hx n1 n2=>?_⟩
 ·by_cases e:Off o lo x∧Off v lw x
  ·simp only[e,and_self,if_true]at hx;exact⟨hx,e⟩
  ·simp only[e,if_false]at hx;cases hx
 ·have:=h4 x p hx
  simp only[this.2,and_self,if_true];exact this.1
 ·have:=And.intro (h1.off hx n1 n2) (h2.off hx n1 n2)
  simp only[this,and_self,if_true];exact hx
theorem PO.num(h:PO β σ o v ou vs):∃lo,σ o=some (.cells [lo])∧LAt 1 σ lo (inC ou)∧∀σ1 lo' ou',LAt 1 σ1 lo' (inC ou')→(∀x p,σ x=some p→¬Own lo x→σ1 x=some p∧¬Own lo' x)→σ1 o=some (.cells [lo])∧PO β (σ1.set o (.cells [lo'])) o v ou' vs:=by
 obtain⟨lo,lw,h1,h2,h3,h4⟩:=h;refine⟨lo,h1.cell,h1.lat,fun σ1 lo' ou' hl hs=>?_⟩;obtain⟨g1,g2⟩:=h1.step hl hs;have k2:CV 1 (σ1.set o (.cells [lo'])) v lw (stC vs):=h2.keep fun x p hx hn=>(g2 x p hx ((h3 x).resolve_right hn)).1;refine⟨(hs o _ h1.cell (h1.lat.not_own h1.cell)).1,lo',lw,g1,k2,fun x=>?_,fun x p hx=>?_⟩
 ·by_cases e:Off v lw x
  ·exact .inr e
  ·obtain⟨p,hp⟩:=h2.some e
   exact .inl (g2 x p hp ((h3 x).resolve_right e)).2
 ·have:=h4 x p hx
  have k:=g2 x p this.1 this.2.1;exact⟨k.1,k.2,this.2.2⟩
theorem PO.var(h:PO β σ o v ou vs):∃lw,σ v=some (.cells [lw])∧LAt 1 σ lw (stC vs)∧∀σ1 lw' vs',LAt 1 σ1 lw' (stC vs')→(∀x p,σ x=some p→¬Own lw x→σ1 x=some p∧¬Own lw' x)→σ1 v=some (.cells [lw])∧PO β (σ1.set v (.cells [lw'])) o v ou vs':=by
 obtain⟨lo,lw,h1,h2,h3,h4⟩:=h;refine⟨lw,h2.cell,h2.lat,fun σ1 lw' vs' hl hs=>?_⟩;obtain⟨g1,g2⟩:=h2.step hl hs;have k2:CV 1 (σ1.set v (.cells [lw'])) o lo (inC ou):=h1.keep fun x p hx hn=>(g2 x p hx ((h3 x).resolve_left hn)).1;refine⟨(hs v _ h2.cell (h2.lat.not_own h2.cell)).1,lo,lw',k2,g1,fun x=>?_,fun x p hx=>?_⟩
 ·by_cases e:Off o lo x
  ·exact .inl e
  ·obtain⟨p,hp⟩:=h1.some e
   exact .inr (g2 x p hp ((h3 x).resolve_left e)).2
 ·have:=h4 x p hx
  have k:=g2 x p this.1 this.2.2;exact⟨k.1,this.2.1,k.2⟩
end
section
variable{β σ:St}{o v b:Nat}{out:List Nat}{vs:List ByteArray}
def Gs(l:List Nat):List Int:=l.map Int.ofNat
@[go_sem] theorem Gn(l:List Nat):(Gs l).length=l.length:=by simp[Gs]
theorem Abv{l:List Nat}{n:Nat}:inC (Gs l)++[[int n]]=inC (Gs (l++[n])):=by simp[inC,Gs]
theorem Aaq(r:Rl){k:Nat}(hk:k<r.bo.length)(hb:β b=some (.cells r.cs))(h:PO β σ o v (Gs out) vs)(h1:out.length≤1000000)(h2:vs.length≤1000000)(h3:r.bo[k].ar.length≤1000000):
  AT Tryz.prog 158 [int k,ptr o,ptr b,ptr v] σ fun _ σ'=>PO β σ' o v (Gs (out++[k])) (Q1 r.bo[k] vs):=by
 refine AT.ob Tryz.func158 rfl ?_;obtain⟨lo,c1,c2,c3⟩:=h.num;simp only[go_sem,Aa,c1,c2.one,c2.cells];refine As (ys:=[[int k]]) (by simp[src]) (by decide) (by decide) (by decide) (c2.app (by rw[Tf,Gn];simp;omega) fun lo' σ1 hl hs=>?_);rw[Abv]at hl;obtain⟨d1,d2⟩:=c3 σ1 lo' _ hl hs;simp only[go_sem,d1,hl.one,hl.cells];clear c1 c2 c3 hs h hl d1;revert d2;generalize σ1.set o (.cells [lo'])=σ2;intro h;have hb2:=h.sub _ _ hb;simp only[go_sem,Aa,hb2,Gz hk];refine⟨by omega,Al fun c hc hcn=>?_⟩;have h':=h.new (ob:=.cells r.bo[k].cs) hc;obtain⟨γ,g1,g2,g3⟩:=h'.base;have hcc:γ c=some (.cells r.bo[k].cs):=g3 c _ Ab (fun a e=>by injection e with e;exact absurd (congrArg List.length e) (by rw[Li.len];simp)) (fun _ _ _ e=>by cases e);simp only[go_sem,Aa,Ab];clear hcn h hb2 hc;revert h' g1 g2 g3 hcc;intro h' g1 g2 g3 hcc;refine As (ys:=tmC r.bo[k].ar) (by simp[src]) (by decide) (by decide) (by decide) (LAt.full.app (by rw[Mj];simp;omega) fun lt σ3 hw hs=>?_);have hno:∀x,¬Own (.fsl 4 [r.bo[k].by'.cs,r.bo[k].at'.cs]) x:=fun x ⟨n,c,e⟩=>by cases e
 have g4:=g1.keep fun x o hx=>(hs x o hx (hno x)).1;clear h' g3 hs hno hcc;have hw:LAt 4 σ3 lt (tmC (r.bo[k].by'::r.bo[k].at'::r.bo[k].ar)):=hw;obtain⟨ts,hts⟩:∃ts,ts=r.bo[k].by'::r.bo[k].at'::r.bo[k].ar:=⟨_,rfl⟩
 have htl:ts.length≤1000002:=by subst hts;simp;omega
 rw[←hts]at hw;obtain⟨δ,d1,d2,d3⟩:=g4.base
 have hw0:LAt 4 δ lt (tmC ts):=hw.keep fun x o hx ho=>d3 x o hx (fun a e=>by subst e;exact hw.not_own hx ho) (fun es f c e=>by
  obtain⟨c',hc'⟩:=hw.own_rows ho;rw[hx]at hc';rw[e]at hc';cases hc')
 simp only[go_sem,Aa,hw.len];refine⟨fun m fr σ'=>∃i:Nat,m=ts.length-i∧i≤ts.length∧PO δ σ' o v (Gs (out++[k])) (vs++(ts.take i).map Tm.v)∧fr 3=ptr v∧fr 24=lt∧fr 25=int ts.length∧fr 26=int i,⟨_,0,rfl,by omega,by simpa using d1,rfl,rfl,rfl,rfl⟩,?_⟩;rintro m fr σ4 ⟨i,rfl,h1,h,f3,f24,f25,f26⟩;simp only[go_sem,f24,f25,f26];refine aIf_by (fun hlt=>?_) (fun hlt=>?_)
 ·have hi:i<ts.length:=by omega
  have hw2:LAt 4 σ4 lt (tmC ts):=hw0.keep fun x o hx _=>h.sub x o hx;simp only[go_sem,Aa,f24,f26];refine hw2.elem (by omega) (by rw[Mj];omega) fun p hp=>?_;simp only[go_sem,Aa];refine hp.load (by omega) (by rw[Int.toNat_natCast,J3 hi];exact Nat.le_refl 4) ?_;simp only[go_sem,J3 hi];refine Al fun d hd hdn=>?_;have h:=h.new (ob:=.cells ts[i].cs) hd;obtain⟨lw,c1,c2,c3⟩:=h.var;simp only[go_sem,Aa,Ab,f3,c1,c2.one,c2.cells];have hvl:((vs++(ts.take i).map Tm.v).length:Nat)≤2000002:=by simp;omega
  refine As (ys:=[[str ts[i].v]]) (by simp[src]) (by decide) (by decide) (by decide) (c2.app (by rw[T7];simp only[List.length_cons,List.length_nil];omega) fun lw' σ5 hl hs=>?_);have e:vs++(ts.take (i+1)).map Tm.v=(vs++(ts.take i).map Tm.v)++[ts[i].v]:=by
   rw[List.take_add_one,List.getElem?_eq_getElem hi,List.map_append,←List.append_assoc];rfl
  have e2:stC (vs++(ts.take i).map Tm.v)++[[str ts[i].v]]=stC (vs++(ts.take (i+1)).map Tm.v):=by rw[e];simp[stC]
  rw[e2]at hl;obtain⟨q1,q2⟩:=c3 σ5 lw' _ hl hs;simp only[go_sem,Aa,f3,q1,hl.one,hl.cells,f26,f25,f24,A2 i (by omega)];exact⟨ts.length-(i+1),by omega,i+1,rfl,by omega,q2,rfl⟩
 ·simp only[go_sem,Aa]
  rw[List.take_of_length_le (by omega)]at h;refine Ac (r:=.tup []) rfl ?_;have e:vs++ts.map Tm.v=Q1 r.bo[k] vs:=by rw[hts];rfl
  rw[←e];exact h.weak fun x p hx=>d2 x p (g2 x p hx)
end
def bst(bo:List Li)(out:List Nat)(vs:List ByteArray):Nat→Int×Int
 |0=>(-1,-1)
 |k+1=>if k∉out∧(bst bo out vs k).2<(knL (bo.getD k .zero) vs:Int)then((k:Int),(knL (bo.getD k .zero) vs:Int))else bst bo out vs k
def P4(bo:List Li):Nat→List Nat→List ByteArray→List Nat
 |0,out,_=>out
 |f+1,out,vs=>P4 bo f (out++[(bst bo out vs bo.length).1.toNat]) (Q1 (bo.getD (bst bo out vs bo.length).1.toNat .zero) vs)
def Gt(r:Rl)(first:Int):List Nat:=
 if 0≤first∧first<r.bo.length then P4 r.bo (r.bo.length-1) [first.toNat] (Q1 (r.bo.getD first.toNat .zero) [r.ho.v])else P4 r.bo r.bo.length [] [r.ho.v]
theorem Acs(bo:List Li)(out:List Nat)(vs:List ByteArray):∀k,((bst bo out vs k).1= -1∧(bst bo out vs k).2= -1∧∀j,j<k→j∈out)∨∃b:Nat,(bst bo out vs k).1=b∧b<k∧b∉out∧0≤(bst bo out vs k).2
 |0=>.inl ⟨rfl,rfl,fun j h=>by omega⟩
 |k+1=>by
  have ih:=Acs bo out vs k;unfold bst;split
  ·rename_i h
   exact .inr ⟨k,rfl,by omega,h.1,by show(0:Int)≤((knL _ _:Nat):Int);omega⟩
  ·rename_i h
   rcases ih with⟨h1,h2,h3⟩|⟨b,h1,h2,h3,h4⟩
   ·refine .inl ⟨h1,h2,fun j hj=>?_⟩
    by_cases e:j=k
    ·subst e
     exact Classical.byContradiction fun hn=>h ⟨hn,by rw[h2];omega⟩
    ·exact h3 j (by omega)
   ·exact .inr ⟨b,h1,by omega,h3,h4⟩
def Perm(n:Nat)(l:List Nat):Prop:=l.Nodup∧∀k∈l,k<n
theorem Jc:∀(n:Nat) (l:List Nat),Perm n l→l.length≤n
 |0,l,h=>by
  cases l with
  |nil=>simp
  |cons a l=>have:=h.2 a (by simp);omega
 |n+1,l,h=>by
  have hp:Perm n (l.filter (· ≠n)):=⟨h.1.filter _,fun k hk=>by
   have hk:=List.mem_filter.1 hk;have:=h.2 k hk.1;have:k≠n:=by simpa using hk.2
   omega⟩
  have ih:=Jc n _ hp;have:=count_one h.1;have hl:l.length≤(l.filter (· ≠n)).length+1:=this n;omega
where
 count_one:∀{l:List Nat},l.Nodup→∀n,l.length≤(l.filter (· ≠n)).length+1
 | [],_,n=>by simp
 |a::l,h,n=>by
  have hh:=List.nodup_cons.1 h;by_cases e:a=n
  ·subst e
   have:l.filter (· ≠a)=l:=List.filter_eq_self.2 fun x hx=>by
    have:x≠a:=fun e=>hh.1 (e▸hx);simpa using this
   simp only[List.filter_cons,ne_eq,not_true_eq_false,decide_false,Bool.false_eq_true,if_false,List.length_cons];simp only[ne_eq]at this;rw[this];exact Nat.le_refl _
  ·have:=count_one hh.2 n
   simp only[List.filter_cons,ne_eq,e,not_false_eq_true,decide_true,if_true,List.length_cons]at*;omega
theorem Aby{n:Nat}{l:List Nat}(h:Perm n l)(hl:l.length<n):∃j,j<n∧j∉l:=Classical.byContradiction fun hn=>by
 have hp:Perm l.length (List.range n)→False:=fun h=>by have:=Jc _ _ h;simp at this;omega
 have hs:∀j,j<n→j∈l:=fun j hj=>Classical.byContradiction fun hm=>hn ⟨j,hj,hm⟩;have:=(List.nodup_range (n:=n)).length_le_of_subset (l₂:=l) (fun j hj=>hs j (List.mem_range.1 hj));simp at this;omega
theorem R0{bo:List Li}{out:List Nat}{vs:List ByteArray}(h:Perm bo.length out)(hl:out.length<bo.length):
  ∃b:Nat,(bst bo out vs bo.length).1=b∧b<bo.length∧b∉out∧Perm bo.length (out++[b]):=by
 rcases Acs bo out vs bo.length with⟨h1,h2,h3⟩|⟨b,h1,h2,h3,h4⟩
 ·obtain⟨j,hj,hn⟩:=Aby h hl
  exact absurd (h3 j hj) hn
 ·refine⟨b,h1,h2,h3,?_,fun k hk=>?_⟩
  ·rw[List.nodup_append]
   exact⟨h.1,by simp,fun a ha c hc=>by simp at hc;subst hc;exact fun e=>h3 (e▸ha)⟩
  ·rcases List.mem_append.1 hk with hk|hk
   ·exact h.2 k hk
   ·simp at hk;omega
theorem Tk{bo:List Li}:∀(f:Nat) (out:List Nat) (vs:List ByteArray),f=bo.length-out.length→Perm bo.length out→Perm bo.length (P4 bo f out vs)∧(P4 bo f out vs).length=bo.length∧∀i (h:i<out.length),(P4 bo f out vs)[i]? =some out[i]
 |0,out,vs,hf,h=>by
  have:=Jc _ _ h;exact⟨h,by unfold P4;omega,fun i h=>by unfold P4;simp[h]⟩
 |f+1,out,vs,hf,h=>by
  obtain⟨b,h1,h2,h3,h4⟩:=R0 (vs:=vs) h (by omega);have ih:=Tk f (out++[b]) (Q1 (bo.getD b .zero) vs) (by simp;omega) h4;unfold P4;rw[h1];refine⟨ih.1,ih.2.1,fun i hi=>?_⟩;rw[show((b:Nat):Int).toNat=b from rfl,ih.2.2 i (by simp;omega)];rw[List.getElem_append_left hi]
theorem Oh(r:Rl)(first:Int):Perm r.bo.length (Gt r first)∧(Gt r first).length=r.bo.length∧(0≤first∧first<r.bo.length→(Gt r first)[0]? =some first.toNat):=by
 unfold Gt;split
 ·rename_i h
  have:=Tk (bo:=r.bo) (r.bo.length-1) [first.toNat] (Q1 (r.bo.getD first.toNat .zero) [r.ho.v]) rfl ⟨by simp,fun k hk=>by simp at hk;omega⟩;exact⟨this.1,this.2.1,fun _=>this.2.2 0 (by simp)⟩
 ·rename_i h
  have:=Tk (bo:=r.bo) r.bo.length [] [r.ho.v] rfl ⟨by simp,fun k hk=>by cases hk⟩;exact⟨this.1,this.2.1,fun e=>absurd e h⟩
def Rl.Ok(r:Rl):Prop:=r.bo.length≤300∧∀l∈r.bo,l.ar.length≤300
theorem V5(l:Li)(vs:List ByteArray):(Q1 l vs).length=vs.length+2+l.ar.length:=by
 simp[Q1];omega
def LO(r:Rl)(first:Int)(ou:List Nat)(vs:List ByteArray):Prop:=
 Perm r.bo.length ou∧vs.length≤1+ou.length*302∧P4 r.bo (r.bo.length-ou.length) ou vs=Gt r first
theorem Tg{l:List Li}{i:Nat}(h:i<l.length):l.getD i .zero=l[i]:=by simp[List.getD_eq_getElem?_getD,h]
theorem LO.first{r:Rl}{first:Int}(hr:r.Ok)(h0:0≤first)(h1:first.toNat<r.bo.length):LO r first [first.toNat] (Q1 r.bo[first.toNat] [r.ho.v]):=by
 refine⟨⟨by simp,fun k hk=>by simp at hk;omega⟩,?_,?_⟩
 ·have:=hr.2 _ (List.getElem_mem h1)
  rw[V5];simp;omega
 ·unfold Gt
  rw[if_pos ⟨h0,by omega⟩,Tg h1];rfl
theorem LO.start{r:Rl}{first:Int}(h:¬(0≤first∧first<r.bo.length)):LO r first [] [r.ho.v]:=by
 refine⟨⟨by simp,fun k hk=>by cases hk⟩,by simp,?_⟩;unfold Gt;rw[if_neg h];rfl
theorem LO.next{r:Rl}{first:Int}{ou:List Nat}{vs:List ByteArray}(hr:r.Ok)(h:LO r first ou vs)(hl:ou.length<r.bo.length):
  ∃(b:Nat) (hb:b<r.bo.length),(bst r.bo ou vs r.bo.length).1=b∧LO r first (ou++[b]) (Q1 r.bo[b] vs):=by
 obtain⟨h1,h2,h3⟩:=h;obtain⟨b,e,hb,hn,hp⟩:=R0 (vs:=vs) h1 hl;refine⟨b,hb,e,hp,?_,?_⟩
 ·have:=hr.2 _ (List.getElem_mem hb)
  rw[V5];simp;omega
 ·obtain⟨f,hf⟩:∃f,r.bo.length-ou.length=f+1:=⟨r.bo.length-ou.length-1,by omega⟩
  rw[hf]at h3;unfold P4 at h3;rw[e,show((b:Nat):Int).toNat=b from rfl,Tg hb]at h3;rw[←h3]
  congr 1
  simp;omega
theorem LO.done{r:Rl}{first:Int}{ou:List Nat}{vs:List ByteArray}(h:LO r first ou vs)(hl:¬ou.length<r.bo.length):ou=Gt r first:=by
 obtain⟨h1,h2,h3⟩:=h;rw[←h3,show r.bo.length-ou.length=0 by omega];rfl
theorem LO.len{r:Rl}{first:Int}{ou:List Nat}{vs:List ByteArray}(hr:r.Ok)(h:LO r first ou vs):ou.length≤300∧vs.length≤90601:=by
 have:=Jc _ _ h.1;have:=hr.1;have:=h.2.1;omega
def fiC(r:Rl)(ov:AV)(f:Fa)(lv gv xv:AV)(first:Int):List AV:=r.cs++ov::(f.cs++[lv,gv,xv,int first])
section
variable(r:Rl)(ov:AV)(f:Fa)(lv gv xv:AV)(first:Int)
@[go_sem] theorem Ano:(fiC r ov f lv gv xv first).length=20:=rfl
@[go_sem] theorem Ar0:(fiC r ov f lv gv xv first).take 4=r.ho.cs:=rfl
@[go_sem] theorem Apr:((fiC r ov f lv gv xv first).drop 10).getD 0 (.v undef)= .sl 10 (liC r.bo):=rfl
@[go_sem] theorem Aps:((fiC r ov f lv gv xv first).drop 11).getD 0 (.v undef)=ov:=rfl
@[go_sem] theorem Apt:((fiC r ov f lv gv xv first).drop 12).take 4=f.cs:=rfl
@[go_sem] theorem Apu:((fiC r ov f lv gv xv first).drop 16).getD 0 (.v undef)=lv:=rfl
@[go_sem] theorem Apv:((fiC r ov f lv gv xv first).drop 17).getD 0 (.v undef)=gv:=rfl
@[go_sem] theorem Apw:((fiC r ov f lv gv xv first).drop 18).getD 0 (.v undef)=xv:=rfl
@[go_sem] theorem Apx:((fiC r ov f lv gv xv first).drop 19).getD 0 (.v undef)=int first:=rfl
@[go_sem] theorem Ani:(fiC r ov f lv gv xv first).getD 10 (.v undef)= .sl 10 (liC r.bo):=rfl
@[go_sem] theorem Anj:(fiC r ov f lv gv xv first).getD 11 (.v undef)=ov:=rfl
@[go_sem] theorem Ank:(fiC r ov f lv gv xv first).getD 16 (.v undef)=lv:=rfl
@[go_sem] theorem Anl:(fiC r ov f lv gv xv first).getD 17 (.v undef)=gv:=rfl
@[go_sem] theorem Anm:(fiC r ov f lv gv xv first).getD 18 (.v undef)=xv:=rfl
@[go_sem] theorem Ann:(fiC r ov f lv gv xv first).getD 19 (.v undef)=int first:=rfl
@[go_sem] theorem Anh(y:AV):Au (fiC r ov f lv gv xv first) 18 [y]=fiC r ov f lv gv y first:=rfl
end
def EI(β σ:St)(x:Nat)(r:Rl)(ord:List Nat)(f:Fa)(l:List Fa)(first:Int)(got:List Fa)(out:List (List Fa)):Prop:=
 ∃gb lo es,σ x=some (.cells (fiC r (.sl 1 (inC (Gs ord))) f (.sl 4 (faC l)) (slv gb got.length got.length) lo first))∧σ gb=some (.rows 4 (faC got) false got.length)∧
  Ow 1 σ lo es∧es.length=out.length∧(∀i (h:i<out.length),∃v,es.getD i []=[v]∧Ow 4 σ v (faC out[i])∧¬Own v gb∧∀x,Own v x→β x=none)∧(∀y o,β y=some o→σ y=some o∧y≠x∧y≠gb∧¬Own lo y)∧lo≠.fsl 1 []
theorem EI.sub{β σ σ':St}{x:Nat}{r:Rl}{ord:List Nat}{f:Fa}{l:List Fa}{first:Int}{got:List Fa}{out:List (List Fa)}(h:EI β σ x r ord f l first got out)(hs:∀y o,σ y=some o→σ' y=some o):EI β σ' x r ord f l first got out:=by
 obtain⟨gb,lo,es,h1,h2,h3,h4,h5,h6,h7⟩:=h;exact⟨gb,lo,es,hs _ _ h1,hs _ _ h2,h3.sub hs,h4,fun i hi=>(by obtain⟨v,k1,k2,k3⟩:=h5 i hi;exact⟨v,k1,k2.sub hs,k3⟩),fun y o hy=>⟨hs _ _ (h6 y o hy).1,(h6 y o hy).2⟩,h7⟩
theorem Agx{ho:Tm}{bo:List Li}{cand:Nat→List Fa}(k:Nat)(o:List Nat)(env:List Bi)(got:List Fa)(i:Nat)(l:List Fa)(hl:l=cand k):(l.take i).flatMap (fun x=>match Fi ho (bo.getD k .zero) x env with
  |some e=>Cs ho bo cand o e (got.set k x)
  |none=>[])++(l.drop i).flatMap (fun x=>match Fi ho (bo.getD k .zero) x env with
  |some e=>Cs ho bo cand o e (got.set k x)
  |none=>[])=Cs ho bo cand (k::o) env got:=by
 rw[←List.flatMap_append,List.take_append_drop,hl];rfl
theorem Ag1{l:List Fa}{i:Nat}{y:Fa}:(faC l).set i y.cs=faC (l.set i y):=by simp[faC,List.map_set]
theorem EI.put{β σ:St}{x:Nat}{r:Rl}{ord:List Nat}{f:Fa}{l:List Fa}{first:Int}{got:List Fa}{out:List (List Fa)}{gb:Nat}{lo:AV}{es:List (List AV)}(i:Nat)(y:Fa)(h1:σ x=some (.cells (fiC r (.sl 1 (inC (Gs ord))) f (.sl 4 (faC l)) (slv gb got.length got.length) lo first)))(h2:σ gb=some (.rows 4 (faC got) false got.length))
  (h3:Ow 1 σ lo es) (h4:es.length=out.length) (h5:∀i (h:i<out.length),∃v,es.getD i []=[v]∧Ow 4 σ v (faC out[i])∧¬Own v gb∧∀x,Own v x→β x=none) (h6:∀y o,β y=some o→σ y=some o∧y≠x∧y≠gb∧¬Own lo y) (h7:lo≠.fsl 1 []):
  EI β (σ.set gb (.rows 4 (faC (got.set i y)) false got.length)) x r ord f l first (got.set i y) out:=by
 have hxg:x≠gb:=fun e=>by subst e;rw[h1]at h2;cases h2
 have nog:¬Own lo gb:=fun ho=>by
  obtain⟨c,hc⟩:=h3.lat.own_rows ho;rw[h2]at hc;cases hc
 have e:(got.set i y).length=got.length:=by simp
 refine⟨gb,lo,es,by rw[Ad hxg,e];exact h1,by rw[e];exact Ab,h3.keep fun z o hz ho=>?_,h4,fun j hj=>?_,fun z o hz=>?_,h7⟩
 ·rw[Ad (fun e=>by subst e;exact nog ho)];exact hz
 ·obtain⟨v,v1,v2,v3⟩:=h5 j hj
  exact⟨v,v1,v2.keep fun z o hz ho=>by rw[Ad (fun e=>by subst e;exact v3.1 ho)];exact hz,v3⟩
 ·obtain⟨w1,w2,w3,w4⟩:=h6 z o hz
  exact⟨by rw[Ad w3];exact w1,w2,w3,w4⟩
section
variable{β σ:St}{x:Nat}
theorem Agw(r:Rl)(ord:List Nat)(first:Int)(f:Fa)(l:List Fa)(hr:r.S3)(hf:f.Sm)(hl:l.length≤1000000)(hls:∀y∈l,y.Sm)(ho:ord.length≤300)(hon:ord.Nodup)(hob:∀k∈ord,k<r.bo.length):
  ∀(m k:Nat) {β σ:St} {env:List Bi} {got:List Fa} {out:List (List Fa)},k+m=ord.length→got.length=r.bo.length→env.length≤10+302*k→EI β σ x r ord f l first got out→out.length+(Cs r.ho r.bo (Dz first f l) (ord.drop k) env got).length≤1000000→
  AT Tryz.prog 101 [ptr x,int k,.sl 4 (biC env)] σ fun _ σ'=>∃got',got'.length=got.length∧(∀i,i∉ord.drop k→got'[i]? =got[i]?)∧EI β σ' x r ord f l first got' (out++Cs r.ho r.bo (Dz first f l) (ord.drop k) env got):=by
 intro m
 induction m with
 |zero=>
  intro k β σ env got out hk hg he h hb;have hd:ord.drop k=[]:=List.drop_of_length_le (by omega);rw[hd]at hb⊢;have hb:out.length+1≤1000000:=by simpa[Cs]using hb
  obtain⟨gb,lo,es,h1,h2,h3,h4,h5,h6,h7⟩:=h;refine AT.ob Tryz.func101 rfl ?_;have dd:=decide_eq_true (show(k:Int)=ord.length by omega);simp only[go_sem,h1,Gn,dd];refine Ag [.rd 0 false,.rd 1 false,.rd 2 false,.rd 3 false,.rd 4 true,.rd 5 false,.rd 6 false,.rd 7 false,.rd 8 true,.ef 9 [4],.rd 10 false,.ef 11 [],.rd 12 false,.rd 13 false,.ef 14 []] ?_;simp only[go_sem,h1];have hr1:=hr.1;refine(Aa7 got (by omega) ⟨gb,_,rfl,h2⟩).mono ?_;rintro rv σ1 ⟨k1,k2,k3⟩;simp only[go_sem,k2.sub _ _ h1,k1.lat.cells,k1.lat.one];have h3':=h3.sub k2.sub;refine As (ys:=[[rv]]) (by rfl) (by decide) (by decide) (by decide) (Ow.of_app h3'.lat (by simp) (by simp only[List.length_nil,List.length_cons];omega) fun lo' σ2 g1 g2 g3=>?_);have hx2:=(g2 _ _ (k2.sub _ _ h1) (h3'.lat.not_own (k2.sub _ _ h1)));simp only[go_sem,hx2.1,g1.lat.cells,g1.lat.one];have nog:¬Own lo gb:=fun ho=>by
   obtain⟨c,hc⟩:=h3.lat.own_rows ho;rw[h2]at hc;cases hc
  have hg2:=g2 _ _ (k2.sub _ _ h2) nog;have nrv:∀y,Own rv y→¬Own lo' y:=fun y ho ho'=>by
   obtain⟨c,hc⟩:=g3 y ho';obtain⟨c',hc'⟩:=k1.lat.own_rows ho;by_cases hlo:Own lo y
   ·obtain⟨c'',hc''⟩:=h3'.lat.own_rows hlo
    rw[hc']at hc'';cases hc''
   ·rw[(g2 _ _ hc' hlo).1]at hc;cases hc
  have keep:∀y o,σ1 y=some o→¬Own lo y→y≠x→(σ2.set x (.cells (fiC r (.sl 1 (inC (Gs ord))) f (.sl 4 (faC l)) (slv gb got.length got.length) lo' first))) y=some o:=fun y o hy ho hne=>by
   rw[Ad hne];exact(g2 _ _ hy ho).1
  have nlo:∀{v:AV} {es':List (List AV)},LAt 4 σ1 v es'→∀y,Own v y→¬Own lo y∧y≠x:=fun hv y hy=>by
   obtain⟨c,hc⟩:=hv.own_rows hy;refine⟨fun ho=>?_,fun e=>?_⟩
   ·obtain⟨c',hc'⟩:=h3'.lat.own_rows ho
    rw[hc]at hc';cases hc'
   ·subst e
    rw[k2.sub _ _ h1]at hc;cases hc
  refine Ac (r:=.tup []) rfl ⟨got,rfl,fun _ _=>rfl,gb,lo',es++[[rv]],Ab,?_,?_,?_,?_,?_,?_⟩
  ·rw[Ad (fun e=>by subst e;rw[h1]at h2;cases h2)];exact hg2.1
  ·exact g1.keep fun y o hy ho=>by
    rw[Ad (fun e=>by subst e;exact hx2.2 ho)];exact hy
  ·simp[Cs,h4]
  ·intro i hi
   by_cases e:i<out.length
   ·obtain⟨v,v1,v2,v3⟩:=h5 i e
    have v2':=v2.sub k2.sub;refine⟨v,?_,?_,v3⟩
    ·rw[List.getD_eq_getElem?_getD,List.getElem?_append_left (by omega)]
     rw[List.getD_eq_getElem?_getD]at v1;exact v1
    ·rw[List.getElem_append_left e]
     exact v2'.keep fun y o hy ho=>keep y o hy (nlo v2'.lat y ho).1 (nlo v2'.lat y ho).2
   ·have e2:i=out.length:=by simp[Cs]at hi;omega
    subst e2;refine⟨rv,?_,?_,fun ho=>?_,fun y hy=>?_⟩
    ·rw[List.getD_eq_getElem?_getD,List.getElem?_append_right (by omega),h4];simp
    ·rw[List.getElem_append_right (by omega)]
     simp only[Cs,Nat.sub_self,List.getElem_cons_zero];exact k1.keep fun y o hy ho=>keep y o hy (nlo k1.lat y ho).1 (nlo k1.lat y ho).2
    ·rw[k3 _ ho]at h2;cases h2
    ·exact Cj (fun y o hy=>(h6 y o hy).1) (k3 _ hy)
  ·intro y o hy
   obtain⟨w1,w2,w3,w4⟩:=h6 y o hy;have:=g2 _ _ (k2.sub _ _ w1) w4;exact⟨keep y o (k2.sub _ _ w1) w4 w2,w2,w3,this.2⟩
  ·rcases g1 with⟨e,_⟩|⟨b,c,rfl,_⟩
   ·simp at e
   ·intro e;cases e
 |succ m ih=>
  intro k β σ env got out hk hg he h hb;obtain⟨gb,lo,es,h1,h2,h3,h4,h5,h6,h7⟩:=h;have h:EI β σ x r ord f l first got out:=⟨gb,lo,es,h1,h2,h3,h4,h5,h6,h7⟩;refine AT.ob Tryz.func101 rfl ?_;have dd:=decide_eq_false (show¬(k:Int)=ord.length by omega);have hko:k<ord.length:=by omega
  obtain⟨at',hat⟩:∃a,a=ord[k]:=⟨_,rfl⟩;have hkb:at'<r.bo.length:=by rw[hat];exact hob _ (List.getElem_mem hko)
  have hlk:=hr.2 _ (List.getElem_mem hkb);have ek:(inC (Gs ord)).getD k []=[int (at':Nat)]:=by
   rw[Te (by rw[Gn];exact hko),hat];simp[Gs]
  have ed:ord.drop k=at'::ord.drop (k+1):=by rw[hat];exact List.drop_eq_getElem_cons hko
  obtain⟨cd,hcd⟩:∃cd,cd=Dz first f l at':=⟨_,rfl⟩;have hcl:cd.length≤1000000:=by
   rw[hcd];unfold Dz;split
   ·simp
   ·exact hl
  have hcs:∀y∈cd,y.Sm:=by
   rw[hcd];unfold Dz;split
   ·intro y hy;rw[List.mem_singleton.1 hy];exact hf
   ·exact hls
  simp only[go_sem,h1,Gn,dd,ek];refine⟨by omega,?_⟩;refine D8 (fun fr σ'=>∃lc,(lc= .sl 4 (faC cd)∨lc= .fsl 4 (faC cd))∧σ'=σ∧fr 0=ptr x∧fr 1=int k∧fr 2= .sl 4 (biC env)∧fr 6=int at'∧fr 7=lc) (fun h0=>?_) (fun h0=>?_) ?_
  ·have e:cd=[f]:=by rw[hcd];unfold Dz;rw[if_pos h0]
   simp only[go_sem,h1];refine⟨.fsl 4 (faC cd),.inr rfl,?_⟩;rw[e]
   try (and_intros<;>first|assumption|rfl|omega)
  ·have e:cd=l:=by rw[hcd];unfold Dz;rw[if_neg h0]
   simp only[go_sem];refine⟨.sl 4 (faC cd),.inl rfl,?_⟩;rw[e]
   try (and_intros<;>first|assumption|rfl|omega)
  rintro fr σ' ⟨lc,hlc,rfl,f0,f1,f2,f6,f7⟩;have hR:∀σ'',Rd 4 σ'' lc (faC cd):=fun σ''=>by
   rcases hlc with rfl|rfl
   ·exact .sl
   ·exact .of .full
  simp only[go_sem,Aa,f7,(hR σ').len,Am];rw[ed]at hb⊢;have hge:=fun i=>Agx (ho:=r.ho) (bo:=r.bo) (cand:=Dz first f l) at' (ord.drop (k+1)) env got i cd hcd;obtain⟨G,hG⟩:∃G:Fa→List (List Fa),G=fun x=>match Fi r.ho (r.bo.getD at' .zero) x env with
   |some e=>Cs r.ho r.bo (Dz first f l) (ord.drop (k+1)) e (got.set at' x)
   |none=>[]:=⟨_,rfl⟩
  simp only[←hG]at hge;have hat2:at'∉ord.drop (k+1):=by
   have:=hon.sublist (List.drop_sublist k ord);rw[ed]at this;exact(List.nodup_cons.1 this).1
  refine⟨fun mm fr σ''=>∃(i:Nat) (got':List Fa),mm=cd.length-i∧i≤cd.length∧got'.length=got.length∧(∀j,j∉at'::ord.drop (k+1)→got'[j]? =got[j]?)∧EI β σ'' x r ord f l first got' (out++(cd.take i).flatMap G)∧fr 0=ptr x∧fr 1=int k∧fr 2= .sl 4 (biC env)∧fr 6=int at'∧fr 55=lc∧fr 56=int cd.length∧fr 57=int i,⟨_,0,got,rfl,by omega,rfl,fun _ _=>rfl,by simpa using h,f0,f1,f2,f6,rfl,rfl,rfl⟩,?_⟩;clear f0 f1 f2 f6 f7 fr h h1 h2 h3 h4 h5 h6 h7 gb lo es;rintro mm fr σ1 ⟨i,got',rfl,hi,hg',hgo,hE,f0,f1,f2,f6,f55,f56,f57⟩;simp only[go_sem,f56,f57];refine aIf_by (fun hlt=>?_) (fun hlt=>?_)
  ·have hic:i<cd.length:=by omega
   obtain⟨gb,lo,es,h1,h2,h3,h4,h5,h6,h7⟩:=hE;have hE:EI β σ1 x r ord f l first got' (out++(cd.take i).flatMap G):=⟨gb,lo,es,h1,h2,h3,h4,h5,h6,h7⟩;simp only[go_sem,Aa,f55,f57];refine(hR σ1).elem (by omega) (by rw[Am];omega) fun e he=>?_;simp only[go_sem,Aa];refine he.load (by decide) (by rw[Int.toNat_natCast,Bc hic];exact Nat.le_refl 4) ?_;simp only[go_sem,Aa,Bc hic];refine Ctx.nil.alloc fun t9 σ2 c1=>?_;obtain⟨σ3,e3,c2⟩:=c1.abs 0 rfl (.cells cd[i].cs);have hx3:=c2.sub _ _ h1;simp only[go_sem,Aa,c1.g0,e3];refine Ag [.rd 0 false,.rd 1 false,.rd 2 false,.rd 3 false,.rd 4 true,.rd 5 false,.rd 6 false,.rd 7 false,.rd 8 false,.rd 9 true,.rd 10 false,.rd 11 false,.rd 12 true,.rd 13 true,.rd 14 false,.ef 15 [],.rd 16 false,.rd 17 false,.rd 18 false,.rd 19 false,.rd 20 false] ?_;simp only[go_sem,Aa,f0,f2,f6,hx3,c2.g0,Gz hkb];refine⟨by omega,(Aea r.ho r.bo[at'] cd[i] env (by omega) (by omega)).p ?_⟩;have hgi:G cd[i]=match Fi r.ho r.bo[at'] cd[i] env with
    |some e=>Cs r.ho r.bo (Dz first f l) (ord.drop (k+1)) e (got.set at' cd[i])
    |none=>[]:=by rw[hG];simp only;rw[Aku hkb]
   have htk:(cd.take (i+1)).flatMap G=(cd.take i).flatMap G++G cd[i]:=by
    rw[List.take_add_one,List.getElem?_eq_getElem hic,List.flatMap_append];simp
   cases hv:Fi r.ho r.bo[at'] cd[i] env with
   |none=>
    rw[hv]at hgi;simp only at hgi;simp only[go_sem,Aa,f0,f1,f2,f6,f55,f56,f57,A2 i (by omega)];refine⟨cd.length-(i+1),by omega,i+1,got',?_⟩;have hE':EI β σ3 x r ord f l first got' (out++(cd.take (i+1)).flatMap G):=by
     rw[htk,hgi,List.append_nil];exact hE.sub c2.sub
    (and_intros<;>first|assumption|rfl|omega)
   |some e2=>
    rw[hv]at hgi;simp only at hgi;have hel:=Zz hv;have hg3:=c2.sub _ _ h2;simp only[go_sem,Aa];refine Ag [.rd 0 false,.rd 1 false,.rd 2 false,.rd 3 true,.rd 4 false,.rd 5 true,.rd 6 false,.ef 7 []] ?_;have hag:at'<got'.length:=by omega
    have hae:=Fa.app cd[i] got'[at'];simp only[go_sem,Aa,f0,f1,f6,hx3,c2.g0,hg3,A2 k (by omega),Bc hag,Ag1];refine⟨by omega,hag,?_⟩;have hE3:=(EI.put at' cd[i] hx3 hg3 (h3.sub c2.sub) h4 (fun j hj=>(by obtain⟨v,k1,k2,k3⟩:=h5 j hj;exact⟨v,k1,k2.sub c2.sub,k3⟩)) (fun y o hy=>⟨c2.sub _ _ (h6 y o hy).1,(h6 y o hy).2⟩) h7);have hgeq:Cs r.ho r.bo (Dz first f l) (ord.drop (k+1)) e2 (got'.set at' cd[i])=Cs r.ho r.bo (Dz first f l) (ord.drop (k+1)) e2 (got.set at' cd[i]):=by
     refine Vk _ _ _ _ (by simp[hg']) fun j hj=>?_;by_cases e:at'=j
     ·subst e
      simp[List.getElem?_set,hag,hg',show at'<got.length by omega]
     ·rw[List.getElem?_set_ne e,List.getElem?_set_ne e]
      exact hgo j (by simp[hj,Ne.symm e])
    have hlen:((out++(cd.take i).flatMap G).length+(Cs r.ho r.bo (Dz first f l) (ord.drop (k+1)) e2 (got'.set at' cd[i])).length)≤1000000:=by
     rw[hgeq,←hgi];have h1:=congrArg List.length (hge (i+1));rw[htk]at h1;simp only[List.length_append]at h1⊢;omega
    refine(ih (k+1) (by omega) (by simp[hg',hg]) (by omega) hE3 hlen).mono ?_;rintro _ σ5 ⟨got2,q1,q2,q3⟩;simp only[go_sem,Aa,f0,f1,f2,f6,f55,f56,f57,A2 i (by omega)];refine⟨cd.length-(i+1),by omega,i+1,got2,?_⟩;have z1:got2.length=got.length:=by rw[q1];simp[hg']
    have z2:∀j,j∉at'::ord.drop (k+1)→got2[j]? =got[j]? :=fun j hj=>by
     rw[List.mem_cons,not_or]at hj;rw[q2 j hj.2,List.getElem?_set_ne (Ne.symm hj.1)];exact hgo j (by simp[hj])
    have z3:EI β σ5 x r ord f l first got2 (out++(cd.take (i+1)).flatMap G):=by
     rw[htk,hgi,←hgeq,←List.append_assoc];exact q3
    (and_intros<;>first|assumption|rfl|omega)
  ·simp only[go_sem,Aa]
   rw[List.take_of_length_le (by omega)]at hE;refine Ac (r:=.tup []) rfl ⟨got',hg',hgo,?_⟩;have:=hge cd.length;rw[List.take_of_length_le (by omega),List.drop_of_length_le (by omega)]at this;rw[←this];simpa using hE
end
end Go.Proofs.YtmifmncabejffaaGreat
namespace Go.Proofs.YtmifmncabejffaaGreat.L
open Go Go.Av Go.Sort
section
variable{α:Type}{en:α→List AV}(hl:∀x,(en x).length=1)(ho:∀x,(en x).all AV.one=true)(hce:∀x,((en x).getD 0 (.v undef)).cells=en x){e:α→α→Bool}{g:Nat}{β:St}(hC:∀σ',(∀x o,β x=some o→σ' x=some o)→∀x y,AT Tryz.prog g [(en x).getD 0 (.v undef),(en y).getD 0 (.v undef)] σ' fun r σ''=>r=boo (e x y)∧σ''=σ')
variable{b cap:Nat}(hn:β b=none)
include hl ho hce hC hn
theorem compact_at{σ:St}{l:List α}(hb:σ b=some (.rows 1 (l.map en) false cap))(hs:∀x o,β x=some o→σ x=some o)(hcap:l.length≤cap)(hsz:l.length≤1000000000000):AT Tryz.prog 104 [slv b l.length cap,fnv g] σ fun r σ'=>r=slv b (Cl e l).length cap∧σ'=σ.set b (.rows 1 ((Cl e l).map en) false cap):=by
 refine AT.ob Tryz.func104 rfl ?_;have e4:∀x,(en x).take 1=en x:=fun x=>List.take_of_length_le (by rw[hl];omega);have e5:∀x y,en x++List.drop 1 (en y)=en x:=fun x y=>by rw[List.drop_eq_nil_of_le (by rw[hl];omega),List.append_nil]
 have eg:∀j (hj:j<l.length),(l.map en).getD j []=en l[j]:=fun j hj=>by simp[List.getD_eq_getElem?_getD,hj]
 have same:∀{fr:Fr} {m:Nat},m=l.length→Cl e l=l→Bj Tryz.prog fr σ (Tryz.f104).results.toList=some (slv b l.length cap)→Fp Tryz.prog (fun r σ'=>r=slv b (Cl e l).length cap∧σ'=σ.set b (.rows 1 ((Cl e l).map en) false cap)) (Tryz.f104).results.toList fr σ:=fun _ he hr=>
  Ac hr ⟨by rw[he],by rw[he];exact(Bv hb).symm⟩
 simp only[go_sem];refine aIf_by (fun h2=>?_) (fun h2=>?_)
 ·simp only[go_sem]
  exact same rfl (O9 (by omega)) rfl
 ·simp only[go_sem,Aa]
  refine⟨fun m fr σ'=>∃(k:Nat) (hk:0<k) (hkn:k≤l.length),m=l.length-k∧σ'=σ∧Cl e l=l.take k++Eh e (l[k-1]'(by omega)) (l.drop k)∧fr 0=slv b l.length cap∧fr 1=fnv g∧fr 5=int k,⟨_,1,by omega,by omega,rfl,rfl,Pb (by omega),rfl,rfl,rfl⟩,?_⟩;rintro m fr σ ⟨k,hk,hkn,rfl,rfl,hI,f0,f1,f5⟩;simp only[go_sem,f0,f5];refine aIf_by (fun hlt=>?_) (fun hlt=>?_)
  ·have hkl:k<l.length:=by omega
   have w1:IntKind.i64.wrap ((k:Int)-1)=((k-1:Nat):Int):=by rw[Ai (by omega)];omega
   have q1:=eg k hkl;have q2:=eg (k-1) (by omega);have ed:l.drop k=l[k]::l.drop (k+1):=List.drop_eq_getElem_cons hkl;rw[ed]at hI;simp only[go_sem,Aa];refine Ag [.rd 0 false,.rd 1 false,.rd 2 false,.rd 3 false,.rd 4 true,.rd 5 false,.rd 6 false,.rd 7 false,.rd 8 false,.rd 9 true,.ef 10 []] ?_;simp only[go_sem,Aa,f0,f1,f5,w1,hb,q1,q2,e4,hl,List.length_map];refine⟨by omega,by omega,by omega,by omega,(hC _ hs _ _).p ?_⟩;simp only[go_sem,Aa];refine aIf_bool (fun h0=>?_) (fun h0=>?_)
   ·have hI:Cl e l=l.take k++Eh e l[k] (l.drop (k+1)):=by rw[hI,Db,if_pos h0]
    simp only[go_sem,Aa,f0,f5];refine Ba (p:=k) (by omega) (by omega) hcap (by omega) ?_;simp only[go_sem,Aa]
    refine⟨fun m fr σ'=>∃(w j:Nat) (es:List (List AV)) (hj:k<j) (hjn:j≤l.length) (res:List α),m=l.length-j∧w<j∧es.length=l.length∧(∀i,i<l.length→(es.getD i []).length=1)∧σ'=σ.set b (.rows 1 es false cap)∧res.length=w∧es.take w=res.map en∧es.drop (j-1)=(l.drop (j-1)).map en∧Cl e l=res++Eh e (l[j-1]'(by omega)) (l.drop j)∧fr 0=slv b l.length cap∧fr 1=fnv g∧fr 5=int w∧fr 6= .v (.slice (some ⟨b,k,none⟩) (l.length-k) (cap-k))∧fr 7=int (j-k:Nat),
     ⟨_,k,k+1,l.map en,by omega,by omega,l.take k,rfl,by omega,by simp,(fun i hi=>by rw[eg i hi,hl]),(Bv hb).symm,by simp;omega,by simp[List.map_take],by simp[List.map_drop],hI,f0,f1,f5,rfl,by rw[show k+1-k=1 by omega];rfl⟩,?_⟩
    clear hI f0 f1 f5 h0 hlt w1 q1 q2 ed fr;rintro m fr σ' ⟨w,j,es,hj,hjn,res,rfl,hwj,hes,he1,rfl,hres,ht,hd,hI,f0,f1,f5,f6,f7⟩;have hge:∀i,j-1≤i→∀hi:i<l.length,es.getD i []=en l[i]:=fun i h1 h2=>by
     have:=congrArg (fun x=>x.getD (i-(j-1)) []) hd;simp only[List.getD_eq_getElem?_getD,List.getElem?_drop,List.getElem?_map]at this;rw[show j-1+(i-(j-1))=i by omega]at this;simpa[List.getD_eq_getElem?_getD,h2]using this
    simp only[go_sem,f6,f7];refine aIf_by (fun hlt=>?_) (fun hlt=>?_)
    ·have hjl:j<l.length:=by omega
     have w2:IntKind.i64.wrap (((j-k:Nat):Int)-1)=((j-k-1:Nat):Int):=by rw[Ai (by omega)];omega
     have p1:=hge j (by omega) hjl;have p2:=hge (j-1) (by omega) (by omega);have ed:l.drop j=l[j]::l.drop (j+1):=List.drop_eq_getElem_cons hjl;have a1:k+(j-k)=j:=by omega
     have a2:k+(j-k-1)=j-1:=by omega
     rw[ed]at hI;simp only[go_sem,Aa];refine Ag [.rd 0 false,.rd 1 false,.rd 2 false,.rd 3 false,.rd 4 true,.rd 5 false,.rd 6 false,.rd 7 false,.rd 8 false,.rd 9 true,.ef 10 [],.rd 11 false] ?_;simp only[go_sem,Aa,f1,f6,f7,w2];refine Gh (l:=k) (by omega) (by decide) (by omega) (by omega) ?_;simp only[go_sem,Aa,a1,Ab,p1,e4,hl,hes,f6,f7,w2];refine⟨by omega,Gh (l:=k) (by omega) (by decide) (by omega) (by omega) ?_⟩;simp only[go_sem,Aa,a2,Ab,p2,e4,hl,hes,f1];refine⟨by omega,(hC _ (Ak hn hs) _ _).p ?_⟩;simp only[go_sem,Aa];refine aIf_bool (fun h0=>?_) (fun h0=>?_)
     ·have hI:Cl e l=res++Eh e l[j] (l.drop (j+1)):=by rw[hI,Db,if_pos h0]
      have n1:IntKind.i64.wrap (((j-k:Nat):Int)+1)=((j+1-k:Nat):Int):=by rw[Ai (by omega)];omega
      simp only[go_sem,Aa,f0,f1,f5,f6,f7,n1];refine⟨l.length-(j+1),by omega,w,j+1,es,by omega,by omega,res,rfl,by omega,hes,he1,rfl,hres,ht,?_,hI,rfl,rfl⟩;rw[Nat.add_sub_cancel,show j=j-1+1 by omega,←List.drop_drop,hd,←List.map_drop,List.drop_drop]
     ·have hI:Cl e l=(res++[l[j]])++Eh e l[j] (l.drop (j+1)):=by rw[hI,Db,if_neg (by rw[h0];decide),List.append_assoc];rfl
      have n1:IntKind.i64.wrap (((j-k:Nat):Int)+1)=((j+1-k:Nat):Int):=by rw[Ai (by omega)];omega
      have dz:List.drop 1 (es.getD w [])=[]:=List.drop_eq_nil_of_le (by rw[he1 w (by omega)];omega);simp only[go_sem,Aa,f0,f1,f5,f6,f7,n1];refine Gh (l:=k) (by omega) (by decide) (by omega) (by omega) ?_;simp only[go_sem,Aa,a1,Ab,p1,e4,hl,hes,f0,f1,f5,f6,f7,n1,dz,List.append_nil,hce,ho,B5,A2 w (by omega)];refine⟨by omega,by omega,by omega,l.length-(j+1),by omega,w+1,j+1,es.set w (en l[j]),by omega,by omega,res++[l[j]],rfl,by omega,by simp;omega,fun i hi=>?_,rfl,by simp;omega,?_,?_,hI,rfl,rfl⟩
      ·simp only[List.getD_eq_getElem?_getD,List.getElem?_set]
       split
       ·rw[if_pos (by omega)];exact hl _
       ·have:=he1 i hi
        rwa[List.getD_eq_getElem?_getD]at this
      ·rw[List.take_add_one,List.take_set_of_le (by omega),ht]
       simp[show w<es.length by omega]
      ·rw[Nat.add_sub_cancel,List.drop_set_of_lt (by omega),show j=j-1+1 by omega,←List.drop_drop,hd,←List.map_drop,List.drop_drop]
    ·rw[List.drop_of_length_le (by omega)]at hI
     have hI:Cl e l=res:=by rw[hI];simp[Eh]
     simp only[go_sem,Aa,f0,f5];refine Ba (p:=w) (by omega) (by omega) hcap (by omega) ?_;simp only[go_sem,Aa];refine Hg (l:=w) (by omega) Ab (by decide) (by omega) (by omega) (by decide) ?_;simp only[go_sem,Aa,B5,f0,f5];refine Ia (by omega) hcap ?_;simp only[go_sem,Aa];have hw:(Cl e l).length=w:=by rw[hI];exact hres
     refine Ae (r:=slv b w cap) rfl _ _ (Ht (m:=w) _ Ab) ⟨by rw[hw],?_⟩;rw[B5,List.append_assoc,List.take_append_of_le_length (by simp;omega),List.take_take,Nat.min_self,ht,hI]
   ·have hI:Cl e l=l.take (k+1)++Eh e l[k] (l.drop (k+1)):=by
     have e1:l.take (k+1)=l.take k++[l[k]]:=by rw[List.take_add_one,List.getElem?_eq_getElem hkl];rfl
     rw[hI,e1,Db,if_neg (by rw[h0];decide),List.append_assoc];rfl
    simp only[go_sem,Aa,f0,f1,f5,A2 k (by omega)];exact⟨l.length-(k+1),by omega,k+1,by omega,by omega,rfl,hI,rfl⟩
  ·simp only[go_sem,Aa,f0]
   refine same rfl ?_ rfl;rw[hI,List.drop_of_length_le (by omega),List.take_of_length_le (by omega)];simp[Eh]
end
section
variable{α:Type}[Inhabited α]{en:α→List AV}(hl:∀x,(en x).length=1)(ho:∀x,(en x).all AV.one=true)(hce:∀x,((en x).getD 0 (.v undef)).cells=en x){cf:α→α→Int}{g:Nat}{β:St}(hC:∀σ',(∀x o,β x=some o→σ' x=some o)→∀x y,AT Tryz.prog g [(en x).getD 0 (.v undef),(en y).getD 0 (.v undef)] σ' fun r σ''=>r=int (cf x y)∧σ''=σ')
variable{σ:St}{b cap:Nat}{d:Array α}(hb:σ b=some (.rows 1 (rw' en d) false cap))(hn:β b=none)(hs:∀x o,β x=some o→σ x=some o){n:Nat}(hd:d.size=n)(hsz:n≤1000000000000)
include hl ho hce hC hb hn hs hd hsz
abbrev Aj5:=Tryz.func199
abbrev Nv:Nat:=1
theorem I4{a e:Nat}(he:e≤n)(ha:a≤n):AT Tryz.prog 199 [slv b n cap,int a,int e,fnv g] σ fun _ σ'=>σ'=σ.set b (.rows 1 (rw' en (insertionSort (ltc cf) d a e)) false cap):=by
 have zh1:Nv=1:=rfl;exact rqq1
end
section
variable{α:Type}[Inhabited α]{en:α→List AV}(hl:∀x,(en x).length=1)(ho:∀x,(en x).all AV.one=true)(hce:∀x,((en x).getD 0 (.v undef)).cells=en x){cf:α→α→Int}{g:Nat}{β:St}(hC:∀σ',(∀x o,β x=some o→σ' x=some o)→∀x y,AT Tryz.prog g [(en x).getD 0 (.v undef),(en y).getD 0 (.v undef)] σ' fun r σ''=>r=int (cf x y)∧σ''=σ')
variable{σ:St}{b cap:Nat}{d:Array α}(hb:σ b=some (.rows 1 (rw' en d) false cap))(hn:β b=none)(hs:∀x o,β x=some o→σ x=some o){n:Nat}(hd:d.size=n)(hsz:n≤1000000000000)
include hl ho hce hC hb hn hs hd hsz
abbrev Aj6:=Tryz.func228
abbrev W3:Nat:=1
theorem Mg{lo hi f:Nat}(hf:f+hi≤n)(hlo:lo≤n):AT Tryz.prog 228 [slv b n cap,int lo,int hi,int f,fnv g] σ fun _ σ'=>σ'=σ.set b (.rows 1 (rw' en (siftDown (ltc cf) hi f lo d)) false cap):=by
 have zh1:W3=1:=rfl;exact rqq2
omit hl ho hce hC hb hn hs hd hsz in
theorem Et{lt:α→α→Bool}{hi f:Nat}:∀(m r:Nat) (d:Array α),hi-r≤m→(siftDown lt hi f r d).size=d.size
 |0,r,d,h=>by rw[Hr (by omega)]
 |m+1,r,d,h=>by
  by_cases h1:2*r+1<hi
  ·have hc:=W8 (lt:=lt) (f:=f) (d:=d) h1
   rw[Nh h1];split
   ·rw[Et m _ _ (by omega),Bz]
   ·rfl
  ·rw[Hr h1]
theorem Td{a e:Nat}(he:e≤n)(ha:a<e):AT Tryz.prog 200 [slv b n cap,int a,int e,fnv g] σ fun _ σ'=>σ'=σ.set b (.rows 1 (rw' en (heapSort (ltc cf) d a e)) false cap):=by
 refine AT.ob Tryz.func200 rfl ?_;have w1:IntKind.i64.wrap ((e:Int)-a)=((e-a:Nat):Int):=by rw[Ai (by omega)];omega
 have w2:IntKind.i64.wrap ((IntKind.i64.wrap (((e-a:Nat):Int)-1)).tdiv 2)=((((e-a-1)/2+1:Nat):Int)-1):=by
  rw[Ai (x:=((e-a:Nat):Int)-1) (by omega),Int.tdiv_eq_ediv_of_nonneg (by omega),Ai (by omega)];omega
 simp only[go_sem,Aa,w1,w2];refine⟨fun m fr σ'=>∃(k:Nat) (d':Array α),m=k+1∧k≤n∧d'.size=n∧heapBuild (ltc cf) (e-a) a k d'=heapBuild (ltc cf) (e-a) a ((e-a-1)/2+1) d∧σ'=σ.set b (.rows 1 (rw' en d') false cap)∧fr 0=slv b n cap∧fr 3=fnv g∧fr 8=int a∧fr 9=int 0∧fr 10=int (e-a:Nat)∧fr 11=int ((k:Int)-1),⟨_,_,d,rfl,by omega,hd,rfl,(Bv hb).symm,rfl,rfl,rfl,rfl,rfl,rfl⟩,?_⟩;rintro m fr σ' ⟨k,dd,rfl,hk,hdd,hI,rfl,f0,f3,f8,f9,f10,f11⟩;simp only[go_sem,f11];refine aIf_by (fun hge=>?_) (fun hge=>?_)
 ·obtain⟨j,rfl⟩:∃j,k=j+1:=⟨k-1,by omega⟩
  have ej:((j+1:Nat):Int)-1=(j:Int):=by omega
  simp only[go_sem,Aa,f0,f3,f8,f10,f11,ej];refine(Mg hl ho hce hC (σ:=σ.set b (.rows 1 (rw' en dd) false cap)) (d:=dd) Ab hn (Ak hn hs) hdd hsz (by omega) (by omega)).mono ?_;rintro _ σ1 rfl;have w3:IntKind.i64.wrap ((j:Int)-1)=(j:Int)-1:=Ai (by omega);simp only[go_sem,f0,f3,f8,f9,f10,f11,ej,w3,hdd];exact⟨j+1,by omega,j,siftDown (ltc cf) (e-a) a j dd,rfl,by omega,by rw[Et _ _ _ (Nat.le_refl _)];exact hdd,hI,rfl,rfl⟩
 ·have hk0:k=0:=by omega
  subst hk0;have w4:IntKind.i64.wrap (((e-a:Nat):Int)-1)=((e-a:Nat):Int)-1:=Ai (by omega);simp only[go_sem,Aa,f0,f3,f8,f9,f10,f11,w4];have hI:dd=heapBuild (ltc cf) (e-a) a ((e-a-1)/2+1) d:=hI;have hfin:heapSort (ltc cf) d a e=heapPop (ltc cf) a (e-a) dd:=by rw[hI];rfl
  refine⟨fun m fr σ'=>∃(k:Nat) (d':Array α),m=k+1∧k≤e-a∧d'.size=n∧heapPop (ltc cf) a k d'=heapPop (ltc cf) a (e-a) dd∧σ'=σ.set b (.rows 1 (rw' en d') false cap)∧fr 0=slv b n cap∧fr 3=fnv g∧fr 8=int a∧fr 9=int 0∧fr 12=int ((k:Int)-1),⟨_,_,dd,rfl,by omega,hdd,rfl,rfl,f0,f3,f8,f9,rfl⟩,?_⟩;clear f0 f3 f8 f9 f10 f11 fr hI;rintro m fr σ' ⟨k,de,rfl,hk,hde,hI,rfl,f0,f3,f8,f9,f12⟩;simp only[go_sem,f12];refine aIf_by (fun hge=>?_) (fun hge=>?_)
  ·obtain⟨j,rfl⟩:∃j,k=j+1:=⟨k-1,by omega⟩
   have ej:((j+1:Nat):Int)-1=(j:Int):=by omega
   have w5:IntKind.i64.wrap ((a:Int)+(j:Int))=((a+j:Nat):Int):=by rw[Ai (by omega)];omega
   have q1:=An (en:=en) (d:=de) (j:=a) (by omega);have q2:=An (en:=en) (d:=de) (j:=a+j) (by omega);have q3:=An (en:=en) (d:=de.setIfInBounds a de[a+j]!) (j:=a+j) (by rw[Array.size_setIfInBounds];omega);simp only[go_sem,Aa,f0,f3,f8,f9,f12,ej];refine Ag [.rd 0 false,.rd 1 false,.rd 2 false,.rd 3 false,.rd 4 false,.rd 5 false,.rd 6 false,.rd 7 false,.rd 8 false,.rd 9 false,.rd 10 false,.rd 11 true,.rd 12 false,.rd 13 false,.rd 14 false,.rd 15 true,.rd 16 false,.ef 17 [],.rd 18 false,.ef 19 []] ?_;simp only[go_sem,f0,f3,f8,f9,f12,ej,w5,Ab,q1,q2,A8 hl,Dt hl,hl,ho,hce,Dk,q3,Array.size_setIfInBounds];refine⟨by omega,by omega,by omega,by omega,by omega,by omega,by omega,by omega,?_⟩;have hsw:(swp de a (a+j)).size=n:=by rw[Bz];exact hde
   refine(Mg hl ho hce hC (lo:=0) (hi:=j) (f:=a) (σ:=σ.set b (.rows 1 (rw' en (swp de a (a+j))) false cap)) (d:=swp de a (a+j)) Ab hn (Ak hn hs) hsw hsz (by omega) (by omega)).mono ?_;rintro _ σ1 rfl;have w3:IntKind.i64.wrap ((j:Int)-1)=(j:Int)-1:=Ai (by omega);simp only[go_sem,f0,f3,f8,f9,f12,ej,w3];exact⟨j+1,by omega,j,siftDown (ltc cf) j a 0 (swp de a (a+j)),rfl,by omega,by rw[Et _ _ _ (Nat.le_refl _)];exact hsw,hI,rfl,rfl⟩
  ·have hk0:k=0:=by omega
   subst hk0;simp only[go_sem];rw[hfin,←hI];exact Ac (r:=.tup []) rfl rfl
omit hl ho hce hC hb hn hs hd hsz in
theorem Ae4{i j:Nat}{d:Array α}:reverseLoop i j d=if i<j then reverseLoop (i+1) (j-1) (swp d i j)else d:=by rw[reverseLoop]
abbrev Aj7:=Tryz.func203
abbrev Aay:Nat:=1
omit hC hn hs in
theorem Yc{a e:Nat}(he:e≤n)(ha:a<e):AT Tryz.prog 203 [slv b n cap,int a,int e,fnv g] σ fun _ σ'=>σ'=σ.set b (.rows 1 (rw' en (reverseRange d a e)) false cap):=by
 have zh1:Aay=1:=rfl;exact rqq3
end
def I3:Hint→Int
 | .unknown=>0
 | .increasing=>1
 | .decreasing=>2
section
variable{α:Type}[Inhabited α]{en:α→List AV}(hl:∀x,(en x).length=1)(ho:∀x,(en x).all AV.one=true)(hce:∀x,((en x).getD 0 (.v undef)).cells=en x){cf:α→α→Int}{g:Nat}{β:St}(hC:∀σ',(∀x o,β x=some o→σ' x=some o)→∀x y,AT Tryz.prog g [(en x).getD 0 (.v undef),(en y).getD 0 (.v undef)] σ' fun r σ''=>r=int (cf x y)∧σ''=σ')
variable{σ:St}{b cap:Nat}{d:Array α}(hb:σ b=some (.rows 1 (rw' en d) false cap))(hn:β b=none)(hs:∀x o,β x=some o→σ x=some o){n:Nat}(hd:d.size=n)(hsz:n≤1000000000000)
variable{p:Nat}(hpb:p≠b)(hpn:β p=none)
theorem Cv{lt:α→α→Bool}{a c m k:Nat}(ha:a<m)(hc:c<m):(order2 lt d a c k).1<m∧(order2 lt d a c k).2.1<m∧(order2 lt d a c k).2.2≤k+1:=by
 unfold order2;split
 ·exact⟨hc,ha,Nat.le_refl _⟩
 ·exact⟨ha,hc,Nat.le_succ _⟩
theorem Na{lt:α→α→Bool}{a c e m k:Nat}(ha:a<m)(hc:c<m)(he:e<m):(median lt d a c e k).1<m∧(median lt d a c e k).2≤k+3:=by
 exact rqq4
include hl ho hce hC hb hn hs hd hsz hpb hpn
abbrev Aj8:=Tryz.func239
theorem Es{a c k:Nat}(ha:a<n)(hc:c<n)(hk:k≤1000)(hp:σ p=some (.cells [int k])):AT Tryz.prog 239 [slv b n cap,int a,int c,ptr p,fnv g] σ fun r σ'=>r= .tup [int (order2 (ltc cf) d a c k).1,int (order2 (ltc cf) d a c k).2.1]∧σ'=σ.set p (.cells [int (order2 (ltc cf) d a c k).2.2]):=by
 exact rqq5
theorem Ep{a c e k:Nat}(ha:a<n)(hc:c<n)(he:e<n)(hk:k≤990)(hp:σ p=some (.cells [int k])):AT Tryz.prog 232 [slv b n cap,int a,int c,int e,ptr p,fnv g] σ fun r σ'=>r=int (median (ltc cf) d a c e k).1∧σ'=σ.set p (.cells [int (median (ltc cf) d a c e k).2]):=by
 refine AT.ob Tryz.func232 rfl ?_;have hm:median (ltc cf) d a c e k=((order2 (ltc cf) d (order2 (ltc cf) d a c k).1 (order2 (ltc cf) d (order2 (ltc cf) d a c k).2.1 e (order2 (ltc cf) d a c k).2.2).1 (order2 (ltc cf) d (order2 (ltc cf) d a c k).2.1 e (order2 (ltc cf) d a c k).2.2).2.2).2.1,(order2 (ltc cf) d (order2 (ltc cf) d a c k).1 (order2 (ltc cf) d (order2 (ltc cf) d a c k).2.1 e (order2 (ltc cf) d a c k).2.2).1 (order2 (ltc cf) d (order2 (ltc cf) d a c k).2.1 e (order2 (ltc cf) d a c k).2.2).2.2).2.2):=rfl;rw[hm];have l1:=Cv (d:=d) (lt:=ltc cf) (k:=k) ha hc;generalize hx1:order2 (ltc cf) d a c k=x1 at l1⊢;have l2:=Cv (d:=d) (lt:=ltc cf) (k:=x1.2.2) l1.2.1 he;generalize hx2:order2 (ltc cf) d x1.2.1 e x1.2.2=x2 at l2⊢;have l3:=Cv (d:=d) (lt:=ltc cf) (k:=x2.2.2) l1.1 l2.1;generalize hx3:order2 (ltc cf) d x1.1 x2.1 x2.2.2=x3 at l3⊢;simp only[go_sem];refine(Es hl ho hce hC hb hn hs hd hsz hpb hpn ha hc (by omega) hp).p ?_;rw[hx1];simp only[go_sem];refine(Es hl ho hce hC (σ:=σ.set p (.cells [int x1.2.2])) (by rw[Ad (Ne.symm hpb)];exact hb) hn (Ak hpn hs) hd hsz hpb hpn l1.2.1 he (by omega) Ab).p ?_;rw[hx2];simp only[go_sem];refine(Es hl ho hce hC (σ:=σ.set p (.cells [int x2.2.2])) (by rw[Ad (Ne.symm hpb)];exact hb) hn (Ak hpn hs) hd hsz hpb hpn l1.1 l2.1 (by omega) Ab).p ?_;rw[hx3];simp only[go_sem];exact Ac (r:=int x3.2.1) rfl ⟨rfl,rfl⟩
theorem Eo{a k:Nat}(ha:1≤a)(ha2:a+1<n)(hk:k≤990)(hp:σ p=some (.cells [int k])):AT Tryz.prog 231 [slv b n cap,int a,ptr p,fnv g] σ fun r σ'=>r=int (medianAdjacent (ltc cf) d a k).1∧σ'=σ.set p (.cells [int (medianAdjacent (ltc cf) d a k).2]):=by
 refine AT.ob Tryz.func231 rfl ?_;have w1:IntKind.i64.wrap ((a:Int)-1)=((a-1:Nat):Int):=by rw[Ai (by omega)];omega
 simp only[go_sem,w1,A2 a (by omega)];refine(Ep hl ho hce hC hb hn hs hd hsz hpb hpn (by omega) (by omega) ha2 hk hp).p ?_;simp only[go_sem];exact Ac (r:=int (medianAdjacent (ltc cf) d a k).1) rfl ⟨rfl,rfl⟩
omit hpb hpn in
theorem P6{a e:Nat}(he:e≤n)(ha:a+12<e):AT Tryz.prog 202 [slv b n cap,int a,int e,fnv g] σ fun r σ'=>r= .tup [int (choosePivot (ltc cf) d a e).1,int (I3 (choosePivot (ltc cf) d a e).2)]∧σ'=σ:=by
 refine AT.ob Tryz.func202 rfl ?_;obtain⟨q,hq⟩:∃q,q=(e-a)/4:=⟨_,rfl⟩;have w1:IntKind.i64.wrap ((e:Int)-a)=((e-a:Nat):Int):=by rw[Ai (by omega)];omega
 have w2:IntKind.i64.wrap (((e-a:Nat):Int).tdiv 4)=(q:Int):=by rw[Int.tdiv_eq_ediv_of_nonneg (by omega),Ai (by omega)];omega
 have w3:IntKind.i64.wrap ((a:Int)+IntKind.i64.wrap ((q:Int)*1))=((a+q:Nat):Int):=by rw[Ai (x:=(q:Int)*1) (by omega),Ai (by omega)];omega
 have w4:IntKind.i64.wrap ((a:Int)+IntKind.i64.wrap ((q:Int)*2))=((a+q*2:Nat):Int):=by rw[Ai (x:=(q:Int)*2) (by omega),Ai (by omega)];omega
 have w5:IntKind.i64.wrap ((a:Int)+IntKind.i64.wrap ((q:Int)*3))=((a+q*3:Nat):Int):=by rw[Ai (x:=(q:Int)*3) (by omega),Ai (by omega)];omega
 simp only[go_sem,w1];refine Al fun p hp hpx=>?_;have hpb:p≠b:=fun h=>hpx b _ hb h.symm;have hpn:β p=none:=by
  cases h:β p with
  |none=>rfl
  |some o=>exact absurd rfl (hpx p o (hs p o h))
 have hb1:∀ob,(σ.set p ob) b=some (.rows 1 (rw' en d) false cap):=fun ob=>by rw[Ad (Ne.symm hpb)];exact hb
 have cp:∀r:Nat×Nat,r=(if 8≤e-a then(if 50≤e-a then median (ltc cf) d (medianAdjacent (ltc cf) d (a+q) 0).1 (medianAdjacent (ltc cf) d (a+q*2) (medianAdjacent (ltc cf) d (a+q) 0).2).1 (medianAdjacent (ltc cf) d (a+q*3) (medianAdjacent (ltc cf) d (a+q*2) (medianAdjacent (ltc cf) d (a+q) 0).2).2).1 (medianAdjacent (ltc cf) d (a+q*3) (medianAdjacent (ltc cf) d (a+q*2) (medianAdjacent (ltc cf) d (a+q) 0).2).2).2 else median (ltc cf) d (a+q) (a+q*2) (a+q*3) 0)else(a+q*2,0))→choosePivot (ltc cf) d a e=(r.1,if r.2=0 then .increasing else if r.2=12 then .decreasing else .unknown):=fun r h=>by
  subst h;subst hq;unfold choosePivot;simp only[Nat.mul_one]
 rw[if_pos (show 8≤e-a by omega)]at cp;have d8:=decide_eq_true (show(8:Int)≤((e-a:Nat):Int) by omega);have hm1:∀{a c k:Nat},1≤a→a+1<n→(medianAdjacent (ltc cf) d a k).1<n∧(medianAdjacent (ltc cf) d a k).2≤k+3:=fun h1 h2=>Na (by omega) (by omega) h2;simp only[go_sem,w2,w3,w4,w5,w1,d8];apply H8 (fun fr σ'=>∃r:Nat×Nat,fr 13=int r.1∧fr 55=int r.2∧σ'=σ.set p (.cells [int r.2])∧choosePivot (ltc cf) d a e=(r.1,if r.2=0 then .increasing else if r.2=12 then .decreasing else .unknown))
 case h1=>
  intro key;refine aIf_by (fun g1=>?_) (fun g1=>?_)
  ·rw[if_pos (show 50≤e-a by omega)]at cp
   have l1:=hm1 (a:=a+q) (c:=0) (k:=0) (by omega) (by omega);simp only[go_sem];refine(Eo hl ho hce hC (σ:=σ.set p (.cells [int 0])) (hb1 _) hn (Ak hpn hs) hd hsz hpb hpn (a:=a+q) (k:=0) (by omega) (by omega) (by omega) Ab).p ?_;generalize medianAdjacent (ltc cf) d (a+q) 0=x1 at cp l1⊢;have l2:=hm1 (a:=a+q*2) (c:=0) (k:=x1.2) (by omega) (by omega);simp only[go_sem];refine(Eo hl ho hce hC (σ:=σ.set p (.cells [int x1.2])) (hb1 _) hn (Ak hpn hs) hd hsz hpb hpn (a:=a+q*2) (k:=x1.2) (by omega) (by omega) (by omega) Ab).p ?_;generalize medianAdjacent (ltc cf) d (a+q*2) x1.2=x2 at cp l2⊢;have l3:=hm1 (a:=a+q*3) (c:=0) (k:=x2.2) (by omega) (by omega);simp only[go_sem];refine(Eo hl ho hce hC (σ:=σ.set p (.cells [int x2.2])) (hb1 _) hn (Ak hpn hs) hd hsz hpb hpn (a:=a+q*3) (k:=x2.2) (by omega) (by omega) (by omega) Ab).p ?_;generalize medianAdjacent (ltc cf) d (a+q*3) x2.2=x3 at cp l3⊢;simp only[go_sem];refine(Ep hl ho hce hC (σ:=σ.set p (.cells [int x3.2])) (hb1 _) hn (Ak hpn hs) hd hsz hpb hpn (a:=x1.1) (c:=x2.1) (e:=x3.1) (k:=x3.2) (by omega) (by omega) (by omega) (by omega) Ab).p ?_;generalize median (ltc cf) d x1.1 x2.1 x3.1 x3.2=r at cp⊢;simp only[go_sem,Ab];refine key _ _ ?_;exact⟨r,rfl,rfl,rfl,cp r rfl⟩
  ·rw[if_neg (show¬50≤e-a by omega)]at cp
   simp only[go_sem];refine(Ep hl ho hce hC (σ:=σ.set p (.cells [int 0])) (hb1 _) hn (Ak hpn hs) hd hsz hpb hpn (a:=a+q) (c:=a+q*2) (e:=a+q*3) (k:=0) (by omega) (by omega) (by omega) (by omega) Ab).p ?_;generalize median (ltc cf) d (a+q) (a+q*2) (a+q*3) 0=r at cp⊢;simp only[go_sem,Ab];refine key _ _ ?_;exact⟨r,rfl,rfl,rfl,cp r rfl⟩
 case h2=>
  rintro fr σ1 ⟨r,f13,f55,rfl,hcp⟩;have hdr:∀v,Ey (σ.set p (.cells [int r.2])) v σ v:=fun v=>Ao (A9 hp fun _ _ h=>h);rw[hcp];simp only[go_sem,Aa,f55];refine aIf_by (fun k1=>?_) (fun k1=>?_)
  ·simp only[go_sem,Aa,f13]
   refine Ae (r:=.tup [int r.1,int 1]) rfl _ σ (hdr _) ⟨?_,rfl⟩;show _=AV.tup [int r.1,int (I3 (if r.2=0 then _ else _))];rw[if_pos (by omega)];rfl
  ·simp only[go_sem,Aa,f55]
   refine aIf_by (fun k2=>?_) (fun k2=>?_)
   ·simp only[go_sem,Aa,f13]
    refine Ae (r:=.tup [int r.1,int 2]) rfl _ σ (hdr _) ⟨?_,rfl⟩;show _=AV.tup [int r.1,int (I3 (if r.2=0 then _ else if r.2=12 then _ else _))];rw[if_neg (by omega),if_pos (by omega)];rfl
   ·simp only[go_sem,Aa,f13]
    refine Ae (r:=.tup [int r.1,int 0]) rfl _ σ (hdr _) ⟨?_,rfl⟩;show _=AV.tup [int r.1,int (I3 (if r.2=0 then _ else if r.2=12 then _ else _))];rw[if_neg (by omega),if_neg (by omega)];rfl
end
section
variable{α:Type}[Inhabited α]{en:α→List AV}(hl:∀x,(en x).length=1)(ho:∀x,(en x).all AV.one=true)(hce:∀x,((en x).getD 0 (.v undef)).cells=en x){cf:α→α→Int}{g:Nat}
variable{σ:St}{b cap:Nat}{d:Array α}(hb:σ b=some (.rows 1 (rw' en d) false cap)){n:Nat}(hd:d.size=n)(hsz:n≤1000000000000)
def brk(d:Array α)(a len m i0:Nat):Nat→UInt64×Array α
 |0=>(UInt64.ofNat len,d)
 |j+1=>breakStep a len m (brk d a len m i0 j) (i0+j)
theorem Tn{len:Nat}(h:0<len):1<<<bitsLen len≤2*len:=by
 unfold bitsLen;rw[if_neg (by omega),Nat.one_shiftLeft,Nat.pow_succ];have:=Nat.log2_self_le (n:=len) (by omega);omega
theorem Acr{a e:Nat}(h:8≤e-a):breakPatterns d a e=(brk d a (e-a) (1<<<bitsLen (e-a)) (a+(e-a)/4*2-1) 3).2:=by
 unfold breakPatterns;simp only[ge_iff_le,h,if_true];rfl
theorem Aiu{x y:Nat}(hx:x<18446744073709551616)(hy:y<18446744073709551616):band .u64 (x:Int) (y:Int)=((x&&&y:Nat):Int):=by
 exact rqq6
def oth(len m:Nat)(s:UInt64):Nat:=if len≤(s.toNat&&&(m-1))then(s.toNat&&&(m-1))-len else s.toNat&&&(m-1)
theorem Aew{len:Nat}{s:UInt64}(h:0<len):oth len (1<<<bitsLen len) s<len:=by
 have h1:=Tn h;have h2:s.toNat&&&(1<<<bitsLen len-1)≤1<<<bitsLen len-1:=Nat.and_le_right;unfold oth;split<;>omega
include hl ho hce hb hd hsz
abbrev Aj9:=Tryz.func201
abbrev Sj:Nat:=1
theorem Oy{a e:Nat}(he:e≤n)(ha:a+8≤e):AT Tryz.prog 201 [slv b n cap,int a,int e,fnv g] σ fun _ σ'=>σ'=σ.set b (.rows 1 (rw' en (breakPatterns d a e)) false cap):=by
 have zh1:Sj=1:=rfl;exact rqq7
end
section
variable{α:Type}[Inhabited α]{en:α→List AV}(hl:∀x,(en x).length=1)(ho:∀x,(en x).all AV.one=true)(hce:∀x,((en x).getD 0 (.v undef)).cells=en x){cf:α→α→Int}{g:Nat}{β:St}(hC:∀σ',(∀x o,β x=some o→σ' x=some o)→∀x y,AT Tryz.prog g [(en x).getD 0 (.v undef),(en y).getD 0 (.v undef)] σ' fun r σ''=>r=int (cf x y)∧σ''=σ')
variable{σ:St}{b cap:Nat}{d:Array α}(hb:σ b=some (.rows 1 (rw' en d) false cap))(hn:β b=none)(hs:∀x o,β x=some o→σ x=some o){n:Nat}(hd:d.size=n)(hsz:n≤1000000000000)
theorem Aaj{lt:α→α→Bool}{d:Array α}{e i:Nat}:scanSorted lt d e i=if i<e∧lt d[i]! d[i-1]! =false then scanSorted lt d e (i+1)else i:=by
 rw[scanSorted];by_cases h:i<e<;>cases h2:lt d[i]! d[i-1]! <;>simp[h]
theorem Aj3{lt:α→α→Bool}{d:Array α}{e j:Nat}:shiftUp lt e j d=if j<e∧lt d[j]! d[j-1]! =true then shiftUp lt e (j+1) (swp d j (j-1))else d:=by
 rw[shiftUp];by_cases h:j<e<;>cases h2:lt d[j]! d[j-1]! <;>simp[h]
def pst(lt:α→α→Bool)(a e:Nat)(i:Nat)(d:Array α):Array α:=
 let d1:=swp d i (i-1)
 let d2:=if 2≤i-a then shiftDown lt (i-1) d1 else d1
 if 2≤e-i then shiftUp lt e (i+1) d2 else d2
theorem Aez{lt:α→α→Bool}{a e s i:Nat}{d:Array α}:partialIns lt a e (s+1) i d=if scanSorted lt d e i=e then(d,true)else if e-a<50 then(d,false)else partialIns lt a e s (scanSorted lt d e i) (pst lt a e (scanSorted lt d e i) d):=rfl
include hl ho hce hC hb hn hs hd hsz
abbrev Aka:=Tryz.func204
abbrev Jm:Nat:=1
theorem K4{a e:Nat}(he:e≤n)(ha:a<e):AT Tryz.prog 204 [slv b n cap,int a,int e,fnv g] σ fun r σ'=>r=boo (partialInsertionSort (ltc cf) d a e).2∧σ'=σ.set b (.rows 1 (rw' en (partialInsertionSort (ltc cf) d a e).1) false cap):=by
 have zh1:Jm=1:=rfl;exact rqq8
end
section
variable{α:Type}[Inhabited α]{en:α→List AV}(hl:∀x,(en x).length=1)(ho:∀x,(en x).all AV.one=true)(hce:∀x,((en x).getD 0 (.v undef)).cells=en x){cf:α→α→Int}{g:Nat}{β:St}(hC:∀σ',(∀x o,β x=some o→σ' x=some o)→∀x y,AT Tryz.prog g [(en x).getD 0 (.v undef),(en y).getD 0 (.v undef)] σ' fun r σ''=>r=int (cf x y)∧σ''=σ')
variable{σ:St}{b cap:Nat}{d:Array α}(hb:σ b=some (.rows 1 (rw' en d) false cap))(hn:β b=none)(hs:∀x o,β x=some o→σ x=some o){n:Nat}(hd:d.size=n)(hsz:n≤1000000000000)
theorem T8{p:α→Bool}{d:Array α}{j i:Nat}:scanUp p d j i=if i≤j∧p d[i]! =true then scanUp p d j (i+1)else i:=by
 rw[scanUp];by_cases h:i≤j<;>cases h2:p d[i]! <;>simp[h]
theorem Tz{p:α→Bool}{d:Array α}{i j:Nat}(hi:1≤i):scanDown p d i j=if i≤j∧p d[j]! =true then scanDown p d i (j-1)else j:=by
 cases j with
 |zero=>rw[scanDown,if_neg (fun h=>by omega)]
 |succ k=>
  rw[scanDown];by_cases h:i≤k+1<;>cases h2:p d[k+1]! <;>simp[h]
theorem Wa{lt:α→α→Bool}{a i j i2 j2:Nat}{d:Array α}(h1:scanUp (fun x=>!lt d[a]! x) d j i=i2)(h2:scanDown (fun x=>lt d[a]! x) d i2 j=j2)(h:j2<i2):partEqLoop lt a i j d=(i2,d):=by
 rw[partEqLoop];simp only[h1,h2];rw[if_pos h]
theorem Aey{lt:α→α→Bool}{a i j i2 j2:Nat}{d:Array α}(h1:scanUp (fun x=>!lt d[a]! x) d j i=i2)(h2:scanDown (fun x=>lt d[a]! x) d i2 j=j2)(h:¬j2<i2)(hi:i≤i2)(hj:j2≤j):partEqLoop lt a i j d=partEqLoop lt a (i2+1) (j2-1) (swp d i2 j2):=by
 exact rqq9
include hl ho hce hC hb hn hs hd hsz
abbrev Afq:=Tryz.func205
abbrev Jl:Nat:=1
theorem Nc{a e pv:Nat}(he:e≤n)(ha:a+2≤e)(hp:pv<n):AT Tryz.prog 205 [slv b n cap,int a,int e,int pv,fnv g] σ fun r σ'=>r=int (partitionEqual (ltc cf) d a e pv).1∧σ'=σ.set b (.rows 1 (rw' en (partitionEqual (ltc cf) d a e pv).2) false cap):=by
 have zh1:Jl=1:=rfl;exact rqq10
end
section
variable{α:Type}[Inhabited α]{en:α→List AV}(hl:∀x,(en x).length=1)(ho:∀x,(en x).all AV.one=true)(hce:∀x,((en x).getD 0 (.v undef)).cells=en x){cf:α→α→Int}{g:Nat}{β:St}(hC:∀σ',(∀x o,β x=some o→σ' x=some o)→∀x y,AT Tryz.prog g [(en x).getD 0 (.v undef),(en y).getD 0 (.v undef)] σ' fun r σ''=>r=int (cf x y)∧σ''=σ')
variable{σ:St}{b cap:Nat}{d:Array α}(hb:σ b=some (.rows 1 (rw' en d) false cap))(hn:β b=none)(hs:∀x o,β x=some o→σ x=some o){n:Nat}(hd:d.size=n)(hsz:n≤1000000000000)
theorem Aac{lt:α→α→Bool}{a i j i2 j2:Nat}{d:Array α}(h1:scanUp (fun x=>lt x d[a]!) d j i=i2)(h2:scanDown (fun x=>!lt x d[a]!) d i2 j=j2)(h:j2<i2):partLoop lt a i j d=(j2,d):=by
 rw[partLoop];simp only[h1,h2];rw[if_pos h]
theorem Ajp{lt:α→α→Bool}{a i j i2 j2:Nat}{d:Array α}(h1:scanUp (fun x=>lt x d[a]!) d j i=i2)(h2:scanDown (fun x=>!lt x d[a]!) d i2 j=j2)(h:¬j2<i2)(hi:i≤i2)(hj:j2≤j):partLoop lt a i j d=partLoop lt a (i2+1) (j2-1) (swp d i2 j2):=by
 exact rqq11
theorem Aae{lt:α→α→Bool}{a e pv i2 j2:Nat}{d d0:Array α}(h0:d0=swp d a pv)(h1:scanUp (fun x=>lt x d0[a]!) d0 (e-1) (a+1)=i2)(h2:scanDown (fun x=>!lt x d0[a]!) d0 i2 (e-1)=j2)(h:j2<i2):partition lt d a e pv=(j2,true,swp d0 j2 a):=by
 unfold partition;simp only[←h0,h1,h2];rw[if_pos h]
theorem Ajq{lt:α→α→Bool}{a e pv i2 j2:Nat}{d d0:Array α}(h0:d0=swp d a pv)(h1:scanUp (fun x=>lt x d0[a]!) d0 (e-1) (a+1)=i2)(h2:scanDown (fun x=>!lt x d0[a]!) d0 i2 (e-1)=j2)(h:¬j2<i2):partition lt d a e pv=((partLoop lt a (i2+1) (j2-1) (swp d0 i2 j2)).1,false,swp (partLoop lt a (i2+1) (j2-1) (swp d0 i2 j2)).2 (partLoop lt a (i2+1) (j2-1) (swp d0 i2 j2)).1 a):=by
 exact rqq12
include hl ho hce hC hb hn hs hd hsz
abbrev Afr:=Tryz.func206
abbrev Dv:Nat:=1
theorem Mb{a e pv:Nat}(he:e≤n)(ha:a+2≤e)(hp:pv<n):AT Tryz.prog 206 [slv b n cap,int a,int e,int pv,fnv g] σ fun r σ'=>r= .tup [int (partition (ltc cf) d a e pv).1,boo (partition (ltc cf) d a e pv).2.1]∧σ'=σ.set b (.rows 1 (rw' en (partition (ltc cf) d a e pv).2.2) false cap):=by
 have zh1:Dv=1:=rfl;exact rqq13
end
section
variable{α:Type}[Inhabited α]{en:α→List AV}(hl:∀x,(en x).length=1)(ho:∀x,(en x).all AV.one=true)(hce:∀x,((en x).getD 0 (.v undef)).cells=en x){cf:α→α→Int}{g:Nat}{β:St}(hC:∀σ',(∀x o,β x=some o→σ' x=some o)→∀x y,AT Tryz.prog g [(en x).getD 0 (.v undef),(en y).getD 0 (.v undef)] σ' fun r σ''=>r=int (cf x y)∧σ''=σ')
variable{b cap:Nat}(hn:β b=none){n:Nat}(hsz:n≤1000000000000)(hS:SWO (ltc cf))
include hl ho hce hC hn hsz hS
theorem X7:∀(w:Nat) {σ:St} {d:Array α} {a e limit:Nat},e-a≤w→σ b=some (.rows 1 (rw' en d) false cap)→(∀x o,β x=some o→σ x=some o)→d.size=n→a≤e→e≤n→limit≤1000→Below (ltc cf) a e d→
  AT Tryz.prog 161 [slv b n cap,int a,int e,int limit,fnv g] σ fun _ σ'=>∃d',σ'=σ.set b (.rows 1 (rw' en d') false cap)∧PermIn a e d d'∧SortedIn (ltc cf) a e d':=by
 intro w
 induction w using Nat.strongRecOn with
 |ind w ih=>
 intro σ d a e limit hw hb hs hd hae he hlim hB;refine AT.ob Tryz.func161 rfl ?_;simp only[go_sem,Aa];refine⟨fun m fr σ'=>∃(p q lim:Nat) (wb wp:Bool) (d':Array α),m=q-p∧p≤q∧q≤n∧q-p≤w∧lim≤1000∧d'.size=n∧Below (ltc cf) p q d'∧(∀R,PermIn p q d' R→SortedIn (ltc cf) p q R→PermIn a e d R∧SortedIn (ltc cf) a e R)∧σ'=σ.set b (.rows 1 (rw' en d') false cap)∧fr 0=slv b n cap∧fr 1=int p∧fr 2=int q∧fr 3=int lim∧fr 4=fnv g∧fr 10=boo wb∧fr 11=boo wp,⟨_,a,e,limit,true,true,d,rfl,hae,he,hw,hlim,hd,hB,fun R h1 h2=>⟨h1,h2⟩,(Bv hb).symm,rfl,rfl,rfl,rfl,rfl,rfl,rfl⟩,?_⟩;rintro m fr σ' ⟨p,q,lim,wb,wp,dd,rfl,hpq,hq,hw2,hlim2,hdd,hB2,hF,rfl,f0,f1,f2,f3,f4,f10,f11⟩;have w1:IntKind.i64.wrap ((q:Int)-p)=((q-p:Nat):Int):=by rw[Ai (by omega)];omega
 simp only[go_sem];rw[Aa];simp only[go_sem,f1,f2,w1];refine aIf_by (fun g1=>?_) (fun g1=>?_)
 ·simp only[go_sem,f0,f1,f2,f4]
  refine(I4 hl ho hce hC (σ:=σ.set b (.rows 1 (rw' en dd) false cap)) (d:=dd) Ab hn (Ak hn hs) hdd hsz (a:=p) (e:=q) hq (by omega)).mono ?_;rintro _ σ1 rfl;simp only[go_sem];have h:=insertionSort_holds (lt:=ltc cf) hS dd p q hpq (by omega);exact Ac (r:=.tup []) rfl ⟨_,rfl,hF _ h.1 h.2⟩
 simp only[go_sem,f3];refine aIf_by (fun g2=>?_) (fun g2=>?_)
 ·simp only[go_sem,f0,f1,f2,f4]
  refine(Td hl ho hce hC (σ:=σ.set b (.rows 1 (rw' en dd) false cap)) (d:=dd) Ab hn (Ak hn hs) hdd hsz (a:=p) (e:=q) hq (by omega)).mono ?_;rintro _ σ1 rfl;simp only[go_sem];have h:=heapSort_holds (lt:=ltc cf) hS dd p q hpq (by omega);exact Ac (r:=.tup []) rfl ⟨_,rfl,hF _ h.1 h.2⟩
 simp only[go_sem,f10];refine Q6 (fun fr σ'=>∃(lim':Nat) (d1:Array α),lim'≤1000∧PermIn p q dd d1∧σ'=σ.set b (.rows 1 (rw' en d1) false cap)∧fr 0=slv b n cap∧fr 1=int p∧fr 2=int q∧fr 3=int lim'∧fr 4=fnv g∧fr 10=boo wb∧fr 11=boo wp∧fr 12=int (q-p:Nat)) (fun g3=>?_) (fun g3=>?_) ?_
 ·simp only[go_sem]
  exact⟨lim,dd,hlim2,permIn_refl dd p q,rfl,f0,f1,f2,f3,f4,f10,f11⟩
 ·have w2:IntKind.i64.wrap ((lim:Int)-1)=((lim-1:Nat):Int):=by rw[Ai (by omega)];omega
  simp only[go_sem,f0,f1,f2,f4];refine(Oy hl ho hce (σ:=σ.set b (.rows 1 (rw' en dd) false cap)) (d:=dd) Ab hdd hsz (a:=p) (e:=q) hq (by omega)).mono ?_;rintro _ σ1 rfl;simp only[go_sem,f0,f1,f2,f3,f4,f10,f11,w2];refine⟨lim-1,breakPatterns dd p q,by omega,breakPatterns_holds dd p q hpq (by omega),rfl,rfl⟩
 clear f0 f1 f2 f3 f4 f10 f11 fr hlim2;rintro fr σ' ⟨lim,d1,hlim2,hP1,rfl,f0,f1,f2,f3,f4,f10,f11,f12⟩;have hz1:d1.size=n:=by rw[hP1.1];exact hdd
 have hB1:Below (ltc cf) p q d1:=hB2.perm (by omega) hP1;have hc0:=choosePivot_holds (ltc cf) d1 p q (by omega);simp only[go_sem,f0,f1,f2,f4];refine(P6 hl ho hce hC (σ:=σ.set b (.rows 1 (rw' en d1) false cap)) (d:=d1) Ab hn (Ak hn hs) hz1 hsz (a:=p) (e:=q) hq (by omega)).p ?_;generalize choosePivot (ltc cf) d1 p q=c at hc0⊢;obtain⟨c1,c2⟩:=c;simp only[go_sem,f0,f1,f2,f4];refine D8 (fun fr σ'=>∃(pv:Nat) (h:Int) (d2:Array α),p≤pv∧pv<q∧PermIn p q d1 d2∧σ'=σ.set b (.rows 1 (rw' en d2) false cap)∧fr 0=slv b n cap∧fr 1=int p∧fr 2=int q∧fr 3=int lim∧fr 4=fnv g∧fr 10=boo wb∧fr 11=boo wp∧fr 12=int (q-p:Nat)∧fr 13=int pv∧fr 14=int h) (fun g3=>?_) (fun g3=>?_) ?_
 ·simp only[go_sem,f0,f1,f2,f4]
  refine(Yc hl ho hce (σ:=σ.set b (.rows 1 (rw' en d1) false cap)) (d:=d1) Ab hz1 hsz (a:=p) (e:=q) hq (by omega)).mono ?_;rintro _ σ1 rfl;have hc1:p≤c1:=hc0.1;have hc2:c1<q:=hc0.2;have w3:IntKind.i64.wrap (IntKind.i64.wrap ((q:Int)-1)-IntKind.i64.wrap ((c1:Int)-p))=((q-1-(c1-p):Nat):Int):=by
   rw[Ai (x:=(q:Int)-1) (by omega),Ai (x:=(c1:Int)-p) (by omega),Ai (by omega)];omega
  simp only[go_sem,f0,f1,f2,f3,f4,f10,f11,f12,w3];exact⟨q-1-(c1-p),1,reverseRange d1 p q,by omega,by omega,reverseRange_holds d1 p q hpq (by omega),rfl,rfl,rfl⟩
 ·simp only[go_sem]
  exact⟨c1,I3 c2,d1,hc0.1,hc0.2,permIn_refl d1 p q,rfl,f0,f1,f2,f3,f4,f10,f11,f12,rfl,rfl⟩
 clear f0 f1 f2 f3 f4 f10 f11 f12 fr hc0;rintro fr σ' ⟨pv,h,d2,hp1,hp2,hP2,rfl,f0,f1,f2,f3,f4,f10,f11,f12,f13,f14⟩;have hz2:d2.size=n:=by rw[hP2.1];exact hz1
 have hB3:Below (ltc cf) p q d2:=hB1.perm (by omega) hP2;apply H8 (fun fr σ'=>∃(d3:Array α),PermIn p q d2 d3∧σ'=σ.set b (.rows 1 (rw' en d3) false cap)∧fr 0=slv b n cap∧fr 1=int p∧fr 2=int q∧fr 3=int lim∧fr 4=fnv g∧fr 10=boo wb∧fr 11=boo wp∧fr 12=int (q-p:Nat)∧fr 13=int pv)
 case h1=>
  intro key;cases wb
  ·simp only[go_sem,f10]
   refine key _ _ ?_;exact⟨d2,permIn_refl d2 p q,rfl,f0,f1,f2,f3,f4,f10,f11,f12,f13⟩
  ·cases wp
   ·simp only[go_sem,f10,f11]
    refine key _ _ ?_;exact⟨d2,permIn_refl d2 p q,rfl,f0,f1,f2,f3,f4,f10,f11,f12,f13⟩
   ·simp only[go_sem,f10,f11,f14]
    refine aIf_by (fun g4=>?_) (fun g4=>?_)
    ·simp only[go_sem,f0,f1,f2,f4]
     refine(K4 hl ho hce hC (σ:=σ.set b (.rows 1 (rw' en d2) false cap)) (d:=d2) Ab hn (Ak hn hs) hz2 hsz (a:=p) (e:=q) hq (by omega)).p ?_;have hpi:=partialInsertionSort_holds (lt:=ltc cf) hS d2 p q (by omega) (by omega) hB3;simp only[go_sem];refine aIf_bool (fun g5=>?_) (fun g5=>?_)
     ·simp only[go_sem]
      exact Ac (r:=.tup []) rfl ⟨_,rfl,hF _ (permIn_trans _ _ _ p q (permIn_trans _ _ _ p q hP1 hP2) hpi.1) (hpi.2 g5)⟩
     ·simp only[go_sem]
      refine key _ _ ?_;exact⟨_,hpi.1,rfl,f0,f1,f2,f3,f4,f10,f11,f12,f13⟩
    ·simp only[go_sem]
     refine key _ _ ?_;exact⟨d2,permIn_refl d2 p q,rfl,f0,f1,f2,f3,f4,f10,f11,f12,f13⟩
 case h2=>
  clear f0 f1 f2 f3 f4 f10 f11 f12 f13 f14 fr;rintro fr σ' ⟨d3,hP3,rfl,f0,f1,f2,f3,f4,f10,f11,f12,f13⟩;have hz3:d3.size=n:=by rw[hP3.1];exact hz2
  have hB4:Below (ltc cf) p q d3:=hB3.perm (by omega) hP3;have hF3:∀R,PermIn p q d3 R→SortedIn (ltc cf) p q R→PermIn a e d R∧SortedIn (ltc cf) a e R:=fun R h1 h2=>hF R (permIn_trans _ _ _ p q (permIn_trans _ _ _ p q (permIn_trans _ _ _ p q hP1 hP2) hP3) h1) h2;clear hF hP1 hP2 hP3 hB1 hB2 hB3 hz1 hz2 hdd d1 d2;refine Ag [.rd 0 false,.rd 1 false,.rd 2 false,.rd 3 false,.rd 4 false,.rd 5 false,.rd 6 false,.rd 7 false,.rd 8 true,.rd 9 false,.rd 10 false,.rd 11 false,.rd 12 true,.ef 13 [],.rd 14 false,.rd 15 false,.rd 16 false] ?_;by_cases g6:(0:Int)<p
  ·have w5:IntKind.i64.wrap ((p:Int)-1)=((p-1:Nat):Int):=by rw[Ai (by omega)];omega
   have q1:=An (en:=en) (d:=d3) (j:=p-1) (by omega);have q2:=An (en:=en) (d:=d3) (j:=pv) (by omega);simp only[go_sem,f0,f1,f4,f13,decide_eq_true g6,w5,Ab,q1,q2,A8 hl];refine⟨by omega,by omega,by omega,by omega,(hC _ (Ak hn hs) _ _).p ?_⟩;simp only[go_sem];refine aIf_by (fun g7=>?_) (fun g7=>?_)
   ·simp only[go_sem,f0,f1,f2,f4,f13]
    refine(Mb hl ho hce hC (σ:=σ.set b (.rows 1 (rw' en d3) false cap)) (d:=d3) Ab hn (Ak hn hs) hz3 hsz (a:=p) (e:=q) (pv:=pv) hq (by omega) (by omega)).p ?_;generalize hx:partition (ltc cf) d3 p q pv=x;obtain⟨mid,ap,d4⟩:=x;obtain⟨g7,g8,hs4,hBa,hBr,hleft,hright⟩:=round_part hS (partition_holds (ltc cf)) hp1 hp2 (by omega) hB4 hx;have v1:IntKind.i64.wrap ((mid:Int)-p)=((mid-p:Nat):Int):=by rw[Ai (by omega)];omega
    have v2:IntKind.i64.wrap ((q:Int)-mid)=((q-mid:Nat):Int):=by rw[Ai (by omega)];omega
    have v3:IntKind.i64.wrap (((q-p:Nat):Int).tdiv 8)=(((q-p)/8:Nat):Int):=by rw[Int.tdiv_eq_ediv_of_nonneg (by omega),Ai (by omega)];omega
    simp only[go_sem,f1,f2,f12,v1,v2,v3];refine aIf_by (fun g9=>?_) (fun g9=>?_)
    ·simp only[go_sem,f0,f1,f2,f3,f4]
     refine(ih (mid-p) (by omega) (σ:=σ.set b (.rows 1 (rw' en d4) false cap)) (d:=d4) (a:=p) (e:=mid) (limit:=lim) (Nat.le_refl _) Ab (Ak hn hs) (by omega) g7 (by omega) hlim2 hBa).mono ?_;rintro _ _ ⟨d5,rfl,l1,l2⟩;obtain⟨hBL,hfin⟩:=hleft _ l1 l2;simp only[go_sem,f0,f2,f3,f4,A2 mid (by omega)];exact⟨q-(mid+1),by omega,mid+1,q,lim,decide ((((q-p)/8:Nat):Int)≤((mid-p:Nat):Int)),ap,d5,rfl,by omega,by omega,by omega,hlim2,by rw[l1.1];omega,hBL,fun R h1 h2=>(fun hh=>hF3 R hh.1 hh.2) (hfin R h1 h2),rfl,rfl,rfl,rfl,rfl,rfl⟩
    ·simp only[go_sem,f0,f1,f2,f3,f4,A2 mid (by omega)]
     refine(ih (q-(mid+1)) (by omega) (σ:=σ.set b (.rows 1 (rw' en d4) false cap)) (d:=d4) (a:=mid+1) (e:=q) (limit:=lim) (Nat.le_refl _) Ab (Ak hn hs) (by omega) (by omega) (by omega) hlim2 hBr).mono ?_;rintro _ _ ⟨d5,rfl,l1,l2⟩;obtain⟨hBL,hfin⟩:=hright _ l1 l2;simp only[go_sem,f0,f1,f3,f4];exact⟨mid-p,by omega,p,mid,lim,decide ((((q-p)/8:Nat):Int)≤((q-mid:Nat):Int)),ap,d5,rfl,by omega,by omega,by omega,hlim2,by rw[l1.1];omega,hBL,fun R h1 h2=>(fun hh=>hF3 R hh.1 hh.2) (hfin R h1 h2),rfl,rfl,rfl,rfl,rfl,rfl⟩
   ·simp only[go_sem,f0,f1,f2,f4,f13]
    refine(Nc hl ho hce hC (σ:=σ.set b (.rows 1 (rw' en d3) false cap)) (d:=d3) Ab hn (Ak hn hs) hz3 hsz (a:=p) (e:=q) (pv:=pv) hq (by omega) (by omega)).p ?_;generalize hx:partitionEqual (ltc cf) d3 p q pv=x;obtain⟨mid,d4⟩:=x;obtain⟨g8,g9,hs4,hBr,hfin⟩:=round_eq hS (partitionEqual_holds (ltc cf)) (by omega) hp1 hp2 (by omega) hB4 (by unfold ltc;exact decide_eq_false g7) hx;simp only[go_sem,f0,f2,f3,f4,f10,f11];exact⟨q-mid,by omega,mid,q,lim,wb,wp,d4,rfl,by omega,by omega,by omega,hlim2,by omega,hBr,fun R h1 h2=>(fun hh=>hF3 R hh.1 hh.2) (hfin R h1 h2),rfl,rfl,rfl,rfl,rfl,rfl⟩
  ·simp only[go_sem,f1,decide_eq_false g6]
   simp only[go_sem,f0,f1,f2,f4,f13];refine(Mb hl ho hce hC (σ:=σ.set b (.rows 1 (rw' en d3) false cap)) (d:=d3) Ab hn (Ak hn hs) hz3 hsz (a:=p) (e:=q) (pv:=pv) hq (by omega) (by omega)).p ?_;generalize hx:partition (ltc cf) d3 p q pv=x;obtain⟨mid,ap,d4⟩:=x;obtain⟨g7,g8,hs4,hBa,hBr,hleft,hright⟩:=round_part hS (partition_holds (ltc cf)) hp1 hp2 (by omega) hB4 hx;have v1:IntKind.i64.wrap ((mid:Int)-p)=((mid-p:Nat):Int):=by rw[Ai (by omega)];omega
   have v2:IntKind.i64.wrap ((q:Int)-mid)=((q-mid:Nat):Int):=by rw[Ai (by omega)];omega
   have v3:IntKind.i64.wrap (((q-p:Nat):Int).tdiv 8)=(((q-p)/8:Nat):Int):=by rw[Int.tdiv_eq_ediv_of_nonneg (by omega),Ai (by omega)];omega
   simp only[go_sem,f1,f2,f12,v1,v2,v3];refine aIf_by (fun g9=>?_) (fun g9=>?_)
   ·simp only[go_sem,f0,f1,f2,f3,f4]
    refine(ih (mid-p) (by omega) (σ:=σ.set b (.rows 1 (rw' en d4) false cap)) (d:=d4) (a:=p) (e:=mid) (limit:=lim) (Nat.le_refl _) Ab (Ak hn hs) (by omega) g7 (by omega) hlim2 hBa).mono ?_;rintro _ _ ⟨d5,rfl,l1,l2⟩;obtain⟨hBL,hfin⟩:=hleft _ l1 l2;simp only[go_sem,f0,f2,f3,f4,A2 mid (by omega)];exact⟨q-(mid+1),by omega,mid+1,q,lim,decide ((((q-p)/8:Nat):Int)≤((mid-p:Nat):Int)),ap,d5,rfl,by omega,by omega,by omega,hlim2,by rw[l1.1];omega,hBL,fun R h1 h2=>(fun hh=>hF3 R hh.1 hh.2) (hfin R h1 h2),rfl,rfl,rfl,rfl,rfl,rfl⟩
   ·simp only[go_sem,f0,f1,f2,f3,f4,A2 mid (by omega)]
    refine(ih (q-(mid+1)) (by omega) (σ:=σ.set b (.rows 1 (rw' en d4) false cap)) (d:=d4) (a:=mid+1) (e:=q) (limit:=lim) (Nat.le_refl _) Ab (Ak hn hs) (by omega) (by omega) (by omega) hlim2 hBr).mono ?_;rintro _ _ ⟨d5,rfl,l1,l2⟩;obtain⟨hBL,hfin⟩:=hright _ l1 l2;simp only[go_sem,f0,f1,f3,f4];exact⟨mid-p,by omega,p,mid,lim,decide ((((q-p)/8:Nat):Int)≤((q-mid:Nat):Int)),ap,d5,rfl,by omega,by omega,by omega,hlim2,by rw[l1.1];omega,hBL,fun R h1 h2=>(fun hh=>hF3 R hh.1 hh.2) (hfin R h1 h2),rfl,rfl,rfl,rfl,rfl,rfl⟩
theorem sort_at{σ:St}{d:Array α}(hb:σ b=some (.rows 1 (rw' en d) false cap))(hs:∀x o,β x=some o→σ x=some o)(hd:d.size=n):AT Tryz.prog 102 [slv b n cap,fnv g] σ fun _ σ'=>∃d',σ'=σ.set b (.rows 1 (rw' en d') false cap)∧d'.toList.Perm d.toList∧SortedIn (ltc cf) 0 n d':=by
 refine AT.ob Tryz.func102 rfl ?_;have w1:IntKind.u64.wrap (n:Int)=(n:Int):=by rw[Mn];omega
 simp only[go_sem,w1];refine(Pw (x:=n) (by omega)).p ?_;have hbl:=Sw (z:=n) (by omega);simp only[go_sem];refine(X7 hl ho hce hC hn hsz hS n (a:=0) (e:=n) (limit:=bitsLen n) (by omega) hb hs hd (by omega) (by omega) (by omega) (.inl rfl)).mono ?_;rintro _ _ ⟨d',rfl,h1,h2⟩;simp only[go_sem];refine Ac (r:=.tup []) rfl ⟨d',rfl,?_,h2⟩;have h3:=h1.2.2;rw[Array.extract_eq_self_of_le (by rw[h1.1];omega),Array.extract_eq_self_of_le (by omega)]at h3;exact h3
end
end Go.Proofs.YtmifmncabejffaaGreat.L
namespace Go.Proofs.YtmifmncabejffaaGreat
open Go Go.Av
theorem R1{α γ:Type}{en:α→List AV}{f:α→γ}:∀(es:List (List AV)) (out:List γ),es.length=out.length→(∀i (h:i<out.length),∃x,es.getD i []=en x∧f x=out[i])→∃L:List α,L.map en=es∧L.map f=out
 | [],[],_,_=>⟨[],rfl,rfl⟩
 |e::es,o::out,hl,h=>by
  obtain⟨L,h1,h2⟩:=R1 (en:=en) (f:=f) es out (by simpa using hl) fun i hi=>by
   have:=h (i+1) (by simpa using hi);simpa using this
  obtain⟨x,x1,x2⟩:=h 0 (by simp);simp only[List.getD_cons_zero,List.getElem_cons_zero]at x1 x2;exact⟨x::L,by rw[List.map_cons,h1,x1],by rw[List.map_cons,h2,x2]⟩
 | [],_::_,hl,_=>by simp at hl
 |_::_,[],hl,_=>by simp at hl
theorem Af0{l k:List Cn}(h:cnC l=cnC k):l=k:=by
 have:=congrArg (List.map fun(e:List AV)=>match e with
  | [.v (.bool b),.v (.int _ n),.v (.string s)]=>(⟨b,n,s⟩:Cn)
  |_=>⟨false,0,emp⟩) h
 have e:∀l:List Cn,(cnC l).map (fun(e:List AV)=>match e with
  | [.v (.bool b),.v (.int _ n),.v (.string s)]=>(⟨b,n,s⟩:Cn)
  |_=>⟨false,0,emp⟩)=l:=fun l=>by
  unfold cnC;rw[List.map_map]
  conv=>rhs;rw[←List.map_id l]
  rfl
 rwa[e,e]at this
theorem Akj{f g:Fa}(h:f.cs=g.cs):f=g:=by
 unfold Fa.cs at h;simp only[List.cons.injEq,AV.v.injEq,Value.string.injEq,AV.sl.injEq,true_and,and_true]at h;obtain⟨h1,h2,h3,h4⟩:=h;cases f;cases g
 simp only at h1 h2 h3 h4;rw[h1,h2,h3,Af0 h4]
theorem Zs{l k:List Fa}(h:faC l=faC k):l=k:=by
 unfold faC at h
 induction l generalizing k with
 |nil=>cases k<;>simp at h⊢
 |cons x l ih=>
  cases k with
  |nil=>simp at h
  |cons y k=>
   rw[List.map_cons,List.map_cons]at h;injection h with h1 h2;rw[Akj h1,ih h2]
@[go_sem] theorem Apn(f:Fa)(v w:AV):Au (faX f v) 3 [w]=faX f w:=rfl
def GR(σ0 σ:St)(c:Nat)(b:List Fa)(cap:Nat)(D:Nat→Prop):Prop:=
 ∃es,σ c=some (.rows 4 es false cap)∧es.length=b.length∧∀j (h:j<b.length),∃a,es.getD j []=faX b[j] a∧((a= .sl 3 (cnC b[j].ar)∧¬D j)∨(Ow 3 σ a (cnC b[j].ar)∧∀x,Own a x→σ0 x=none))
def BR(σ0 σ:St)(v:AV)(b:List Fa):Prop:=(b=[]∧(v=Ax∨v= .fsl 4 []))∨∃c cap,v=slv c b.length cap∧b.length≤cap∧σ0 c=none∧GR σ0 σ c b cap fun _=>True
def PB(σ0 σ:St)(v:AV)(bods:List (List Fa)):Prop:=
 (∀x o,σ0 x=some o→σ x=some o)∧(∀x,Own v x→σ0 x=none)∧∃es,Ow 1 σ v es∧es.length=bods.length∧∀i (h:i<bods.length),∃w,es.getD i []=[w]∧BR σ0 σ w bods[i]
def JB(σ0 σ7 σ:St)(v:AV)(es:List (List AV))(D:Nat→Nat→Prop):Prop:=
 (∀x o,σ0 x=some o→σ x=some o)∧Ow 1 σ v es∧∀c b cap,σ7 c=some (.rows 4 (faC b) false cap)→σ0 c=none→GR σ0 σ c b cap (D c)
section
variable{σ0 σ7 σ1 σ2:St}{v:AV}{es7:List (List AV)}{D D':Nat→Nat→Prop}
theorem JB.weak(h:JB σ0 σ7 σ1 v es7 D)(hD:∀c (b:List Fa) cap j,σ7 c=some (.rows 4 (faC b) false cap)→j<b.length→D' c j→D c j):JB σ0 σ7 σ1 v es7 D':=by
 refine⟨h.1,h.2.1,fun c b cap h7 h0=>?_⟩;obtain⟨es,g1,g2,g3⟩:=h.2.2 c b cap h7 h0;refine⟨es,g1,g2,fun j hj=>?_⟩;obtain⟨a,k1,k2|k2⟩:=g3 j hj
 ·exact⟨a,k1,.inl ⟨k2.1,fun hd=>k2.2 (hD c b cap j h7 hj hd)⟩⟩
 ·exact⟨a,k1,.inr k2⟩
theorem Tl{σ:St}{c0:Nat}{es es':List (List AV)}{cap cap':Nat}{a:AV}{l:List (List AV)}(hc:σ c0=some (.rows 4 es false cap))(h:Ow 3 σ a l):Ow 3 (σ.set c0 (.rows 4 es' false cap')) a l:=h.keep fun x o hx ho=>by
 have:x≠c0:=fun e=>by
  subst e;obtain⟨k,hk⟩:=h.lat.own_rows ho;rw[hc]at hk;cases hk
 rw[Ad this];exact hx
theorem JB.put(h:JB σ0 σ7 σ1 v es7 D)(hs:∀x o,σ1 x=some o→σ2 x=some o){c0 cap0 j0:Nat}{b0:List Fa}{es:List (List AV)}{a:AV}(h7:σ7 c0=some (.rows 4 (faC b0) false cap0))(h0:σ0 c0=none)(h1:σ1 c0=some (.rows 4 es false cap0))(hj:j0<b0.length)
  (ha:Ow 3 σ2 a (cnC b0[j0].ar)) (hf:∀x,Own a x→σ0 x=none) (hD:∀c j,D' c j→D c j∨(c=c0∧j=j0)):JB σ0 σ7 (σ2.set c0 (.rows 4 (es.set j0 (faX b0[j0] a)) false cap0)) v es7 D':=by
 have h2:=hs _ _ h1;refine⟨fun x o hx=>?_,(h.2.1.sub hs).keep fun x o hx ho=>?_,fun c b cap hc7 hc0=>?_⟩
 ·rw[Ad (fun e=>by rw[e,h0]at hx;cases hx)]
  exact hs _ _ (h.1 x o hx)
 ·rw[Ad (fun e=>?_)]
  ·exact hx
  ·subst e
   obtain⟨k,hk⟩:=h.2.1.lat.own_rows ho;rw[h1]at hk;cases hk
 ·obtain⟨es',g1,g2,g3⟩:=h.2.2 c b cap hc7 hc0
  by_cases e:c=c0
  ·subst e
   rw[h7]at hc7;injection hc7 with hc7;injection hc7 with e1 e2 e3 e4;have:=Zs e2;subst this;subst e4;rw[h1]at g1;injection g1 with g1;injection g1 with _ g1 _ _;subst g1;refine⟨_,Ab,by simp[g2],fun j hj'=>?_⟩;by_cases ej:j=j0
   ·subst ej
    refine⟨a,?_,.inr ⟨Tl h2 ha,hf⟩⟩;simp[List.getD_eq_getElem?_getD,List.getElem?_set,g2,hj]
   ·obtain⟨a',k1,k2⟩:=g3 j hj'
    refine⟨a',?_,?_⟩
    ·rw[List.getD_eq_getElem?_getD,List.getElem?_set_ne (Ne.symm ej),←List.getD_eq_getElem?_getD];exact k1
    ·rcases k2 with k2|k2
     ·exact .inl ⟨k2.1,fun hd=>(hD _ _ hd).elim k2.2 fun h=>ej h.2⟩
     ·exact .inr ⟨Tl h2 (k2.1.sub hs),k2.2⟩
  ·refine⟨es',by rw[Ad e];exact hs _ _ g1,g2,fun j hj'=>?_⟩
   obtain⟨a',k1,k2|k2⟩:=g3 j hj'
   ·exact⟨a',k1,.inl ⟨k2.1,fun hd=>(hD _ _ hd).elim k2.2 fun h=>e h.1⟩⟩
   ·exact⟨a',k1,.inr ⟨Tl h2 (k2.1.sub hs),k2.2⟩⟩
end
structure BV(β σ0:St) where
 bd:List Fa
 v:AV
 ow:Ow 4 β v (faC bd)
 sm:SmB bd
 fr:∀x,Own v x→σ0 x=none
instance(β σ0:St):Inhabited (BV β σ0):=⟨⟨[],Ax,.inl ⟨rfl,.inl rfl⟩,⟨by simp,fun x hx=>by cases hx⟩,fun x hx=>absurd hx Bu⟩⟩
def BV.en{β σ0:St}(x:BV β σ0):List AV:=[x.v]
theorem BV.one{β σ0:St}(x:BV β σ0):x.en.all AV.one=true:=by simp[BV.en,x.ow.lat.one]
theorem BV.cells{β σ0:St}(x:BV β σ0):(x.en.getD 0 (.v undef)).cells=x.en:=by simp[BV.en,x.ow.lat.cells]
def BV.cf{β σ0:St}(x y:BV β σ0):Int:=Ll x.bd y.bd
def BV.eq{β σ0:St}(x y:BV β σ0):Bool:=decide (x.bd=y.bd)
theorem BV.swo{β σ0:St}:Go.Sort.SWO (ltc (BV.cf (β:=β) (σ0:=σ0))) where
 irrefl x:=Ea.swo.irrefl x.bd
 trans x y z:=Ea.swo.trans x.bd y.bd z.bd
 ntrans x y z:=Ea.swo.ntrans x.bd y.bd z.bd
theorem BV.ord_at{β σ0:St}(σ':St)(hs:∀x o,β x=some o→σ' x=some o)(x y:BV β σ0):AT Tryz.prog 103 [x.en.getD 0 (.v undef),y.en.getD 0 (.v undef)] σ' fun r σ''=>r=int (BV.cf x y)∧σ''=σ':=
 orderB_at (.of (x.ow.sub hs).lat) (.of (y.ow.sub hs).lat) x.sm y.sm
theorem BV.eq_at{β σ0:St}(σ':St)(hs:∀x o,β x=some o→σ' x=some o)(x y:BV β σ0):AT Tryz.prog 105 [x.en.getD 0 (.v undef),y.en.getD 0 (.v undef)] σ' fun r σ''=>r=boo (BV.eq x y)∧σ''=σ':=
 eqB_at (.of (x.ow.sub hs).lat) (.of (y.ow.sub hs).lat) x.sm y.sm
theorem BV.done{β σ0:St}{d:Array (BV β σ0)}{out:List (List Fa)}(hp:(d.toList.map BV.bd).Perm out)(hs:Go.Sort.SortedIn (ltc BV.cf) 0 d.size d):(Cl BV.eq d.toList).map BV.bd=Cc Ll [] out:=by
 rw[U1 (e:=BV.eq) (f:=BV.bd) (e':=fun a b=>decide (a=b)) (fun x y=>by unfold BV.eq;simp) (fun x y=>by simp)];refine Pd Ea (fun x y=>by simp) hp ?_ (.refl _);rw[List.pairwise_map];exact R8 (c:=BV.cf) (fun x y=>Ea.anti x.bd y.bd) hs
section
variable{σ:St}
theorem Uz(g:Nat):AT Tryz.prog 104 [Ax,fnv g] σ fun r σ'=>r=Ax∧σ'=σ:=by
 refine AT.ob Tryz.func104 rfl ?_;have d:decide ((0:Int)<2)=true:=rfl;simp only[go_sem,d];exact Ac (r:=Ax) rfl ⟨rfl,rfl⟩
end
theorem PB.view{σ0 σ:St}{v:AV}{bods:List (List Fa)}(h:PB σ0 σ v bods):Ey σ v σ0 (.sl 1 (boC bods)):=by
 obtain⟨h1,h2,es,h3,h4,h5⟩:=h;refine view_of (Jg fun x o hx=>.inl (h1 x o hx)) (h3.lat.vw h2 (by rw[Afv,h4]) fun i hi=>?_);obtain⟨w,k1,k2⟩:=h5 i (by omega);rw[Sy (by omega),k1];refine vws_cons ?_ Cm;rcases k2 with⟨e,rfl|rfl⟩|⟨c,cap,rfl,k3,k4,es',k5,k6,k7⟩
 ·rw[e];exact .nil 4
 ·rw[e];exact LAt.full.vw_same fun x hx=>absurd hx A3
 ·have hL:LAt 4 σ (slv c bods[i].length cap) es':=.inr (.inr ⟨c,cap,by rw[k6],by omega,k5⟩)
  refine hL.vw (fun x hx=>by rw[Bg.1 hx];exact k4) (by rw[Am,k6]) fun j hj=>?_;rw[Bc (by omega)];obtain⟨a,g1,g2⟩:=k7 j (by omega);exact FrX.vws ⟨a,g1,(g2.resolve_left fun h=>h.2 trivial).1.lat|> .of,(g2.resolve_left fun h=>h.2 trivial).2⟩
open Go Go.Av Go.RowKit
section
variable{P:Program}{l:List Oper}{K:Fr→St→Prop}
abbrev Nm:=List (Nat×(St→Prop))
def Qy(P:Program)(l:List Oper)(C:Nm→Fr→St→Prop):List PS→Nm→Fr→St→Prop
 | [],S,fr,σ=>C S fr σ
 | .rd i keep::r,S,fr,σ=>match l[i]? with
  |none=>False
  |some o=>o.guard=none∧aOp P o.op fr σ fun v σ'=>Qy P l C r (if keep then(i,fun σ''=>Yl P o.op fr σ'' v)::S else S) (fr.put o.dst v) σ'
 | .ef _ _::_,_,_,_=>False
def brOk(P:Program)(ops:Array Oper)(i:Nat)(c1:List Nat)(r1:List PS)(j:Nat)(c2:List Nat)(r2:List PS):List PS→Array Bool→List Nat→Bool
 | [],L,N=>(Region.ready .any ops L== [i,j])&&(Dl P ops i==2)&&(Dl P ops j==2)&&(N.all fun p=>Br ops ops.size i p||c1.contains p)&&(N.all fun p=>Br ops ops.size j p||c2.contains p)
   &&C0 P ops r1 (L.setIfInBounds i true) N&&C0 P ops r2 (L.setIfInBounds j true) N
 | .rd k keep::r,L,N=>(Region.ready .any ops L).contains k&&(Dl P ops k==0||(Dl P ops k==1&&keep))&&Region.free .any ops L k&&brOk P ops i c1 r1 j c2 r2 r (L.setIfInBounds k true) (if keep then k::N else N)
 | .ef _ _::_,_,_=>false
theorem Adn{i:Nat}{chk:List Nat}{r:List PS}{L:Array Bool}{N:List Nat}{Sl:Nm}{S:J8}{fr:Fr}{σ:St}(hri:i∈Region.ready .any l.toArray L)(hc:Dl P l.toArray i=2)(hn:(N.all fun p=>Br l.toArray l.toArray.size i p||chk.contains p)=true)
  (hok:C0 P l.toArray r (L.setIfInBounds i true) N=true) (hL:Kj l.toArray L) (hS:∀p q,S p q→(∀σ',q σ')∨(p,q)∈Sl) (hN:∀x∈Sl,x.1∈N) (h:Bo P (Gf l.toArray) l K (.ef i chk::r) Sl fr σ):
  Oq P l.toArray i S (fun S' fr' σ'=>Nx P l.toArray K r.length (L.setIfInBounds i true) S' fr' σ') fr σ:=by
 simp only[Bo]at h;cases hi:l[i]? with
 |none=>rw[hi]at h;exact h.elim
 |some o=>
  rw[hi]at h;have hi':l.toArray[i]? =some o:=by simpa using hi
  have hcl:Dl P l.toArray i=cls P o.op:=by simp[Dl,hi]
  rw[hcl]at hc;unfold Oq;rw[hi'];refine F9 (fun h=>H0 _ _ (fun v σ' hv=>?_) h) (fun h=>?_) h
  ·rw[if_pos hc]
   refine⟨fun p q hpq hb=>?_,Gp r _ N Sl S _ _ hok (C3 hL hri) hS hN hv.2⟩;rcases hS p q hpq with h|h
   ·exact h σ'
   ·have:=List.all_eq_true.1 hn p (hN _ h)
    rw[hb,Bool.false_or]at this;exact Xv h (S1 (by simpa using this) hv.1)
  ·exact Gp r _ N Sl S _ _ hok (C3 hL hri) hS hN h
theorem Aad{i j:Nat}{c1 c2:List Nat}{r1 r2:List PS}(hlen:r1.length=r2.length):∀(pre:List PS) (L:Array Bool) (N:List Nat) (Sl:Nm) (S:J8) (fr:Fr) (σ:St),brOk P l.toArray i c1 r1 j c2 r2 pre L N=true→Kj l.toArray L→
  (∀p q,S p q→(∀σ',q σ')∨(p,q)∈Sl)→(∀x∈Sl,x.1∈N)→
  Qy P l (fun S fr σ=>Bo P (Gf l.toArray) l K (.ef i c1::r1) S fr σ∧Bo P (Gf l.toArray) l K (.ef j c2::r2) S fr σ) pre Sl fr σ→Nx P l.toArray K (pre.length+(r1.length+1)) L S fr σ
 | [],L,N,Sl,S,fr,σ,hok,hL,hS,hN,h=>by
  simp only[brOk,Bool.and_eq_true,beq_iff_eq]at hok;obtain⟨⟨⟨⟨⟨⟨hr,h1⟩,h2⟩,h3⟩,h4⟩,h5⟩,h6⟩:=hok;rw[List.length_nil,Nat.zero_add];refine⟨fun h=>(by rw[h]at hr;cases hr),fun k hk=>?_⟩;have hk':=hk;rw[hr]at hk';simp only[List.mem_cons,List.not_mem_nil,or_false]at hk';rcases hk' with rfl|rfl
  ·exact Adn hk h1 h3 h5 hL hS hN h.1
  ·rw[hlen];exact Adn hk h2 h4 h6 hL hS hN h.2
 | .ef _ _::r,L,N,Sl,S,fr,σ,hok,hL,hS,hN,h=>h.elim
 | .rd k keep::r,L,N,Sl,S,fr,σ,hok,hL,hS,hN,h=>by
  simp only[brOk,Bool.and_eq_true,Bool.or_eq_true,beq_iff_eq]at hok;obtain⟨⟨⟨hr,hc⟩,hf⟩,hok⟩:=hok;have hr:k∈Region.ready .any l.toArray L:=by simpa using hr
  simp only[Qy]at h;cases hi:l[k]? with
  |none=>rw[hi]at h;exact h.elim
  |some o=>
   rw[hi]at h;obtain⟨hg,h⟩:=h;have hi':l.toArray[k]? =some o:=by simpa using hi
   have hcl:Dl P l.toArray k=cls P o.op:=by simp[Dl,hi]
   rw[hcl]at hc;have hne:cls P o.op≠2:=by rcases hc with h|⟨h,_⟩<;>omega
   obtain⟨v,hk,hy⟩:=Le hne h;rw[show(PS.rd k keep::r).length+(r1.length+1)=(r.length+(r1.length+1))+1 by simp only[List.length_cons];omega];refine Kr hi' hne _ L S fr σ hL (Region.free_spec hi' hf) hr (.inl ⟨fun A B hA=>by rw[hg];exact hA,hy,?_⟩);refine Aad hlen r _ _ _ _ _ _ hok (C3 hL hr) ?_ ?_ hk
   ·rintro p q (hp|⟨rfl,rfl⟩)
    ·rcases hS p q hp with h|h
     ·exact .inl h
     ·refine .inr ?_
      split
      ·exact List.mem_cons_of_mem _ h
      ·exact h
    ·rcases hc with h0|⟨_,h0⟩
     ·exact .inl fun σ'=>hy.any h0 σ'
     ·rw[if_pos h0]
      exact .inr (List.mem_cons_self ..)
   ·intro x hx
    cases keep with
    |true=>
     rcases List.mem_cons.1 hx with rfl|hx
     ·exact List.mem_cons_self ..
     ·exact List.mem_cons_of_mem _ (hN x hx)
    |false=>exact hN x hx
theorem Aa0{fr:Fr}{σ:St}(pre:List PS)(i:Nat)(c1:List Nat)(r1:List PS)(j:Nat)(c2:List Nat)(r2:List PS)(hm:P.follows .mixedOrders=true)(hlen:(pre.length+(r1.length+1)==l.length)=true)(hl:(r1.length==r2.length)=true)(hok:brOk P l.toArray i c1 r1 j c2 r2 pre (Array.replicate l.length false) []=true)
  (h:Qy P l (fun S fr σ=>Bo P (l.map (·.dst)) l K (.ef i c1::r1) S fr σ∧Bo P (l.map (·.dst)) l K (.ef j c2::r2) S fr σ) pre (@hid _ ⟨[]⟩) fr σ):Ol P l.toArray K fr σ:=by
 refine La hm ?_;have e:pre.length+(r1.length+1)=l.toArray.size:=by simpa using hlen
 rw[←e];refine Aad (by simpa using hl) pre _ [] [] _ fr σ ?_ ?_ (fun _ _ h=>h.elim) (fun x hx=>by cases hx) h
 ·rw[e];simpa using hok
 ·intro i o hi
  rw[e]at hi;rcases Nat.lt_or_ge i l.length with h'|h'
  ·simp[Array.getElem?_replicate,h']at hi
  ·simp[Array.getElem?_replicate,Nat.not_lt.2 h']at hi
def aRdP(P:Program)(l:List Oper)(C:Nm→Fr→St→Prop)(keep:Bool)(i:Nat)(r:List PS)(S:Nm)(fr:Fr)(σ:St):Option Oper→Prop
 |none=>False
 |some o=>o.guard=none∧aOp P o.op fr σ fun v σ'=>Qy P l C r (if keep then(i,fun σ''=>Yl P o.op fr σ'' v)::S else S) (fr.put o.dst v) σ'
variable{C:Nm→Fr→St→Prop}{S:Nm}{fr:Fr}{σ:St}{r:List PS}{i:Nat}{d:Option Nat}{op:Op}{t:TypeId}{p:String}{e:Array Edge}
@[go_sem] theorem Aoq:Qy P l C [] S fr σ=C S fr σ:=_root_.id rfl
@[go_sem] theorem Aqj{keep:Bool}:Qy P l C (.rd i keep::r) S fr σ=aRdP P l C keep i r S fr σ (l[i]?):=by
 unfold Qy aRdP;cases l[i]? <;>rfl
@[go_sem] theorem Atf:aRdP P l C true i r S fr σ (some {dst:=d,op:=op,type:=t,pos:=p,after:=e,guard:=none})=aOp P op fr σ (@hid _ ⟨fun v σ'=>Qy P l C r (@hid _ ⟨(i,fun σ''=>Yl P op fr σ'' v)::S⟩) (fr.put d v) σ'⟩):=by
 simp only[aRdP,true_and];rfl
@[go_sem] theorem Atg:aRdP P l C false i r S fr σ (some {dst:=d,op:=op,type:=t,pos:=p,after:=e,guard:=none})=aOp P op fr σ (@hid _ ⟨fun v σ'=>Qy P l C r S (fr.put d v) σ'⟩):=by
 simp only[aRdP,true_and];rfl
end
section
variable{σ:St}
theorem V7(r:Rl)(first:Int)(hr:r.Ok):AT Tryz.prog 100 [.agg r.cs,int first] σ fun v σ'=>v= .sl 1 (inC (Gs (Gt r first)))∧σ'=σ:=by
 refine AT.ob Tryz.func100 rfl ?_;simp only[go_sem];refine Al fun b hb hbn=>?_;obtain⟨β,hβ⟩:∃β,β=σ.set b (.cells r.cs):=⟨_,rfl⟩;have kb:β b=some (.cells r.cs):=by rw[hβ];exact Ab
 have ks:∀x o,σ x=some o→β x=some o:=by rw[hβ];exact A9 hb (fun _ _ h=>h)
 have hbl:=hr.1;rw[←hβ];clear hβ;simp only[go_sem];refine Al fun o ho hon=>?_;have kb1:(β.set o (.cells [Ax])) b=some (.cells r.cs):=A9 ho (fun _ _ h=>h) _ _ kb;simp only[go_sem,kb1];refine Al fun v hv hvn=>?_;have hvo:o≠v:=hvn o _ Ab;have kb2:∀ob,((β.set o (.cells [Ax])).set v ob) b=some (.cells r.cs):=fun ob=>A9 hv (fun _ _ h=>h) _ _ kb1;simp only[go_sem,kb2,Ab];simp only[Dx,B7];simp only[go_sem,kb2,Ab];apply H8 (fun fr σ'=>∃ou vs,PO β σ' o v (Gs ou) vs∧LO r first ou vs∧fr 2=ptr b∧fr 5=ptr o∧fr 6=ptr v∧fr 7= .v (.func (.func 158) #[] #[.pointer (some ⟨o,0,none⟩),.pointer (some ⟨b,0,none⟩),.pointer (some ⟨v,0,none⟩)]))
 case h1=>
  intro key;have no1:∀x,¬Own (.fsl 1 [[str r.ho.v]]) x:=fun x ⟨n,c,e⟩=>by cases e
  have no2:∀x,¬Own (.v (.slice none 0 0)) x:=fun x ⟨n,c,e⟩=>by cases e
  have r0:PO β ((β.set o (.cells [Ax])).set v (.cells [.fsl 1 [[str r.ho.v]]])) o v (Gs []) [r.ho.v]:=by
   refine⟨Ax,.fsl 1 [[str r.ho.v]],⟨by rw[Ad hvo];exact Ab,.none⟩,⟨Ab,.full⟩,fun x=>?_,fun x p hx=>?_⟩
   ·by_cases e:x=o
    ·subst e;exact .inr ⟨hvo,no1 x⟩
    ·exact .inl ⟨e,no2 x⟩
   ·have h1:x≠o:=hon x p hx
    have h2:x≠v:=hvn x p (by rw[Ad h1];exact hx);exact⟨by rw[Ad h2,Ad h1];exact hx,⟨h1,no2 x⟩,h2,no1 x⟩
  by_cases h0:0≤first
  ·by_cases h1:first<r.bo.length
   ·have hk:first.toNat<r.bo.length:=by omega
    simp only[go_sem,kb2,decide_eq_true h0,decide_eq_true h1];have e0:int first=int (first.toNat:Nat):=by rw[Int.toNat_of_nonneg h0]
    rw[e0];refine(Aaq r hk kb r0 (by simp) (by simp) (by have:=hr.2 _ (List.getElem_mem hk);omega)).mono ?_;rintro _ σ1 h2;simp only[go_sem];refine key _ _ ?_;exact⟨_,_,h2,.first hr h0 hk,rfl,rfl,rfl,rfl⟩
   ·simp only[go_sem,kb2,decide_eq_true h0,decide_eq_false h1]
    refine key _ _ ?_;exact⟨_,_,r0,.start fun h=>h1 h.2,rfl,rfl,rfl,rfl⟩
  ·simp only[go_sem,kb2,decide_eq_false h0]
   refine key _ _ ?_;exact⟨_,_,r0,.start fun h=>h0 h.1,rfl,rfl,rfl,rfl⟩
 case h2=>
  rintro fr σ1 ⟨ou,vs,h,hL,f2,f5,f6,f7⟩;simp only[go_sem,Aa];refine⟨fun m fr σ1=>∃ou vs,m=r.bo.length-ou.length∧PO β σ1 o v (Gs ou) vs∧LO r first ou vs∧fr 2=ptr b∧fr 5=ptr o∧fr 6=ptr v∧fr 7= .v (.func (.func 158) #[] #[.pointer (some ⟨o,0,none⟩),.pointer (some ⟨b,0,none⟩),.pointer (some ⟨v,0,none⟩)]),⟨_,ou,vs,rfl,h,hL,f2,f5,f6,f7⟩,?_⟩;clear h hL f2 f5 f6 f7 ou vs fr σ1;rintro m fr σ1 ⟨ou,vs,rfl,h,hL,f2,f5,f6,f7⟩;have kb1:=h.sub _ _ kb;have hlen:=hL.len hr;obtain⟨lo,c1,c2,c3⟩:=h.num;simp only[go_sem,f2,f5,f6,f7,c1,c2.len,kb1];refine aIf_by (fun hlt=>?_) (fun hlt=>?_)
  ·simp only[go_sem,Aa,f2,f5,f6,f7,kb1]
   refine⟨fun m fr σ'=>∃k:Nat,m=r.bo.length-k∧k≤r.bo.length∧PO β σ' o v (Gs ou) vs∧fr 2=ptr b∧fr 5=ptr o∧fr 6=ptr v∧fr 7= .v (.func (.func 158) #[] #[.pointer (some ⟨o,0,none⟩),.pointer (some ⟨b,0,none⟩),.pointer (some ⟨v,0,none⟩)])∧fr 8=int (bst r.bo ou vs k).1∧fr 9=int (bst r.bo ou vs k).2∧fr 39= .sl 10 (liC r.bo)∧fr 40=int r.bo.length∧fr 41=int k,⟨_,0,rfl,by omega,h,f2,f5,f6,f7,rfl,rfl,rfl,rfl,rfl⟩,?_⟩;clear f2 f5 f6 f7 fr h kb1 c1 c2 c3 lo σ1;rintro m fr σ1 ⟨k,rfl,hk,h,f2,f5,f6,f7,f8,f9,f39,f40,f41⟩;simp only[go_sem,f40,f41];refine aIf_by (fun hlt2=>?_) (fun hlt2=>?_)
   ·have hkl:k<r.bo.length:=by omega
    have hal:=hr.2 _ (List.getElem_mem hkl);simp only[go_sem,Aa,f39,f41,Gz hkl];refine⟨by omega,Al fun c hc hcn=>?_⟩;have h':=h.new (ob:=.cells r.bo[k].cs) hc;obtain⟨lo,c1,c2,c3⟩:=h'.num;obtain⟨γ,g1,g2,g3⟩:=h'.base;have hcc:γ c=some (.cells r.bo[k].cs):=g3 c _ Ab (fun a e=>by injection e with e;exact absurd (congrArg List.length e) (by rw[Li.len];simp)) (fun _ _ _ e=>by cases e);simp only[go_sem,Aa,f39,f41,Gz hkl,Ab,f5,c1,c2.len];revert h' c1 c2 c3 g1 g2 g3 hcc;generalize σ1.set c (.cells r.bo[k].cs)=σ2;intro h' c1 c2 c3 g1 g2 g3 hcc;obtain⟨l,hl⟩:∃l,l=r.bo[k]:=⟨_,rfl⟩;have hg:r.bo.getD k .zero=l:=by rw[hl,Tg hkl]
    rw[←hl]at hal hcc;have hst:bst r.bo ou vs (k+1)=if k∉ou∧(bst r.bo ou vs k).2<(knL l vs:Int)then((k:Int),(knL l vs:Int))else bst r.bo ou vs k:=by
     rw[←hg];rfl
    refine⟨fun m fr σ'=>∃j:Nat,m=ou.length-j∧j≤ou.length∧σ'=σ2∧k∉ou.take j∧fr 2=ptr b∧fr 5=ptr o∧fr 6=ptr v∧fr 7= .v (.func (.func 158) #[] #[.pointer (some ⟨o,0,none⟩),.pointer (some ⟨b,0,none⟩),.pointer (some ⟨v,0,none⟩)])∧fr 8=int (bst r.bo ou vs k).1∧fr 9=int (bst r.bo ou vs k).2∧fr 39= .sl 10 (liC r.bo)∧fr 40=int r.bo.length∧fr 41=int k∧fr 10=int k∧fr 11=ptr c∧fr 46=lo∧fr 47=int ou.length∧fr 48=int j,⟨_,0,rfl,by omega,rfl,by simp,f2,f5,f6,f7,f8,f9,f39,f40,f41,rfl,rfl,rfl,by rw[←Gn ou,←Tf];rfl,rfl⟩,?_⟩;clear f2 f5 f6 f7 f8 f9 f39 f40 f41 fr;rintro m fr σ' ⟨j,rfl,hj,rfl,hn,f2,f5,f6,f7,f8,f9,f39,f40,f41,f10,f11,f46,f47,f48⟩;simp only[go_sem,f47,f48];refine aIf_by (fun hlt3=>?_) (fun hlt3=>?_)
    ·have hjl:j<ou.length:=by omega
     have ej:(inC (Gs ou)).getD j []=[int (ou[j]:Nat)]:=by
      rw[Te (by rw[Gn];exact hjl)];simp[Gs]
     simp only[go_sem,Aa,f46,f48];refine c2.elem (by omega) (by rw[Tf,Gn];omega) fun p hp=>?_;simp only[go_sem,Aa];refine hp.load1 (by omega) (by rw[Int.toNat_natCast,ej];simp) ?_;simp only[go_sem,Aa,ej,f10];refine aIf_by (fun he=>?_) (fun he=>?_)
     ·have hm:k∈ou:=by
       have:ou[j]=k:=by omega
       exact this▸List.getElem_mem hjl
      have e:bst r.bo ou vs (k+1)=bst r.bo ou vs k:=by rw[hst,if_neg fun h=>h.1 hm]
      simp only[go_sem,Aa,f2,f5,f6,f7,f8,f9,f39,f40,f41,A2 k (by omega)];exact⟨r.bo.length-(k+1),by omega,k+1,rfl,by omega,h',by rw[e],by rw[e],rfl⟩
     ·simp only[go_sem,Aa,f2,f5,f6,f7,f8,f9,f39,f40,f41,f10,f11,f46,f47,f48,A2 j (by omega)]
      refine⟨ou.length-(j+1),by omega,j+1,rfl,by omega,?_,rfl⟩;rw[List.take_add_one,List.getElem?_eq_getElem hjl];simp only[Option.toList,List.mem_append,List.mem_singleton,not_or];exact⟨hn,fun e=>he (by rw[←e])⟩
    ·have hn:k∉ou:=by
      rw[List.take_of_length_le (by omega)]at hn;exact hn
     obtain⟨lw,d1,d2,d3⟩:=h'.var;simp only[go_sem,Aa,f2,f5,f6,f10,f11,g1.sub _ _ hcc,Li.len,d1];refine(Ad7 l (by omega) (by omega) (.of d2)).p ?_;simp only[go_sem,Aa,f9];refine aIf_by (fun g2=>?_) (fun g2=>?_)
     ·have e:bst r.bo ou vs (k+1)=((k:Int),(knL l vs:Int)):=by rw[hst,if_pos ⟨hn,g2⟩]
      simp only[go_sem,Aa,f2,f5,f6,f7,f8,f9,f39,f40,f41,f10,A2 k (by omega)];exact⟨r.bo.length-(k+1),by omega,k+1,rfl,by omega,h',by rw[e],by rw[e],rfl⟩
     ·have e:bst r.bo ou vs (k+1)=bst r.bo ou vs k:=by rw[hst,if_neg fun h=>g2 h.2]
      simp only[go_sem,Aa,f2,f5,f6,f7,f8,f9,f39,f40,f41,f10,A2 k (by omega)];exact⟨r.bo.length-(k+1),by omega,k+1,rfl,by omega,h',by rw[e],by rw[e],rfl⟩
   ·obtain rfl:k=r.bo.length:=by omega
    obtain⟨c,hc,e,hN⟩:=hL.next hr (by omega);rw[e]at f8;simp only[go_sem,Aa,f7,f8];refine(Aaq r hc kb h (by omega) (by omega) (by have:=hr.2 _ (List.getElem_mem hc);omega)).mono ?_;rintro _ σ2 h2;simp only[go_sem,Aa,f2,f5,f6,f7];have:=Jc _ _ hN.1;simp only[List.length_append,List.length_cons,List.length_nil]at this;exact⟨_,by simp only[List.length_append,List.length_cons,List.length_nil];omega,_,_,rfl,h2,hN,f2,f5,f6,f7⟩
  ·simp only[go_sem,Aa,f5,c1]
   obtain rfl:=hL.done (by omega);obtain⟨lo',lw,q1,q2,q3,q4⟩:=h;obtain rfl:lo'=lo:=by
    have:=q1.cell.symm.trans c1;injection this with this;injection this with this;injection this
   exact Ae (r:=lo') rfl _ σ (view_of (Jg fun x o hx=>.inl (q4 x o (ks x o hx)).1) (q1.lat.vw_same fun x hx=>Classical.byContradiction fun hn=>by
    obtain⟨o,ho⟩:=Option.ne_none_iff_exists'.1 hn;exact(q4 x o (ks x o ho)).2.1.2 hx)) ⟨rfl,rfl⟩
end
def Fa.zero:Fa:=⟨emp,emp,emp,[]⟩
def Ks(r:Rl)(me:ByteArray)(first:Int)(f:Fa)(l:List Fa):List (List Fa):=
 match B0 r.ho (nmC me) []with
 |some env=>Cs r.ho r.bo (Dz first f l) (Gt r first) env (List.replicate r.bo.length .zero)
 |none=>[]
def Gb(r:Rl)(me:ByteArray)(first:Int)(f:Fa)(l:List Fa):List (List Fa):=Cc Ll [] (Ks r me first f l)
theorem P5(r:Rl)(first:Int):(Gt r first).Nodup:=(Oh r first).1.1
theorem Ta(ho:Tm)(bo:List Li)(cand:Nat→List Fa)(hc:∀k,∀x∈cand k,x.Sm):∀(o:List Nat) (env:List Bi) (got:List Fa),(∀x∈got,x.Sm)→∀b∈Cs ho bo cand o env got,b.length=got.length∧∀x∈b,x.Sm
 | [],env,got,hg,b,hb=>by rw[List.mem_singleton.1 hb];exact⟨rfl,hg⟩
 |k::o,env,got,hg,b,hb=>by
  rw[Cs]at hb;obtain⟨x,hx,hb⟩:=List.mem_flatMap.1 hb;split at hb
  ·have:=Ta ho bo cand hc o _ (got.set k x) (fun y hy=>by
    rcases List.mem_or_eq_of_mem_set hy with hy|rfl
    ·exact hg y hy
    ·exact hc k _ hx) b hb
   exact⟨by rw[this.1,List.length_set],this.2⟩
  ·cases hb
section
variable{σ:St}
set_option maxHeartbeats 2000000 in
theorem Aa6(r:Rl)(me:ByteArray)(first:Int)(f:Fa)(l:List Fa)(hr:r.S3)(hf:f.Sm)(hl:l.length≤1000000)(hls:∀y∈l,y.Sm)(hn:(Ks r me first f l).length≤1000000):
  AT Tryz.prog 53 [.agg r.cs,str me,int first,.agg f.cs,.sl 4 (faC l)] σ fun v σ'=>PB σ σ' v (Gb r me first f l):=by
 refine AT.ob Tryz.func53 rfl ?_;simp only[go_sem];refine Ctx.nil.alloc fun p σ1 c1=>?_;simp only[go_sem];refine c1.alloc fun q σ2 c2=>?_;simp only[go_sem,c2.g1];refine(AT.weak (Ji r.ho (nmC me) [] (by simp)) (vws_same (vws_same (vws_cons (.nil 4) Cm)))).p ?_;simp only[go_sem];cases hu:B0 r.ho (nmC me) []with
 |none=>
  have e:Gb r me first f l=[]:=by unfold Gb Ks;rw[hu];rfl
  rw[e];simp only[go_sem];exact Ae (r:=Ax) rfl _ σ (c2.view _) ⟨fun _ _ h=>h,fun x hx=>absurd hx Bu,[],.inl ⟨rfl,.inl rfl⟩,rfl,fun i hi=>by simp at hi⟩
 |some env=>
  have ef:Ks r me first f l=Cs r.ho r.bo (Dz first f l) (Gt r first) env (List.replicate r.bo.length .zero):=by unfold Ks;rw[hu]
  have hel:=J4 hu;simp only[List.length_nil]at hel;have hr1:=hr.1;simp only[go_sem];refine Aa0 [.rd 0 true,.rd 1 true,.rd 2 false,.rd 4 true,.rd 5 false,.rd 6 false,.rd 7 true,.rd 8 false,.rd 10 false] 3 [0,4,7] [.ef 9 [0,1,4],.rd 11 false,.ef 12 [],.rd 13 false] 9 [0,1,4] [.ef 3 [0,4,7],.rd 11 false,.ef 12 [],.rd 13 false] (by kernel_rfl) (by kernel_rfl) (by kernel_rfl) (by kernel_rfl) ?_;simp only[go_sem,c2.g1];constructor
  case' left=>
   refine(V7 r first hr).mono ?_;rintro _ σ2 ⟨rfl,rfl⟩;simp only[go_sem,c2.g1];refine⟨by omega,by omega,Lc fun gb hgb hgn=>?_⟩;have c3:=c2.new (o:=.rows 4 (List.replicate r.bo.length [str emp,str emp,str emp,Ax]) false r.bo.length) hgb;obtain⟨σ3,e3⟩:∃s,s=σ2.set gb (.rows 4 (List.replicate r.bo.length [str emp,str emp,str emp,Ax]) false r.bo.length):=⟨_,rfl⟩;rw[←e3]at c3⊢;simp only[go_sem,c3.g2]
  case' right=>
   refine⟨by omega,by omega,Lc fun gb hgb hgn=>?_⟩;have c3:=c2.new (o:=.rows 4 (List.replicate r.bo.length [str emp,str emp,str emp,Ax]) false r.bo.length) hgb;obtain⟨σ3,e3⟩:∃s,s=σ2.set gb (.rows 4 (List.replicate r.bo.length [str emp,str emp,str emp,Ax]) false r.bo.length):=⟨_,rfl⟩;rw[←e3]at c3⊢;simp only[go_sem,c3.g2];refine(V7 r first hr).p ?_;simp only[go_sem,c3.g2]
  all_goals
   repeat' refine And.intro (Nat.le_of_ble_eq_true (by kernel_rfl)) ?_
   refine And.intro (by kernel_rfl) ?_;refine c3.alloc (o:=.cells (fiC r (.sl 1 (inC (Gs (Gt r first)))) f (.sl 4 (faC l)) (slv gb r.bo.length r.bo.length) Ax first)) fun x σ4 c4=>?_;simp only[go_sem];obtain⟨σ5,e5⟩:∃s,s=σ4.set gb (.rows 4 (faC (List.replicate r.bo.length Fa.zero)) false r.bo.length):=⟨_,rfl⟩;have k4:=c4.g3;have hE0:EI σ σ5 x r (Gt r first) f l first (List.replicate r.bo.length .zero) []:=by
    rw[e5];refine⟨gb,Ax,[],?_,?_,.inl ⟨rfl,.inl rfl⟩,rfl,fun i hi=>by simp at hi,fun y o hy=>⟨?_,fun e=>?_,fun e=>?_,Bu⟩,fun e=>by cases e⟩
    ·rw[Ad k4.2.1,List.length_replicate];exact k4.1.1
    ·rw[Ab,List.length_replicate]
    ·have h1:=c4.f1
     rw[Ad (fun e=>by rw[e]at hy;rw[hy]at h1;cases h1)];exact c4.sub _ _ hy
    ·have h1:=c4.f0
     rw[e]at hy;rw[hy]at h1;cases h1
    ·have h1:=c4.f1
     rw[e]at hy;rw[hy]at h1;cases h1
   have hSV:SV σ4 σ5:=by
    rw[e5];refine K8 k4.1.2.1 ⟨rfl,rfl,rfl,by simp[faC],fun i hi=>?_⟩ fun y o hne hy=>hy;have hi':i<r.bo.length:=by simpa using hi
    have g1:(List.replicate r.bo.length [str emp,str emp,str emp,Ax]).getD i []=[str emp,str emp,str emp,Ax]:=by
     simp[List.getD_eq_getElem?_getD,hi']
    have g2:(faC (List.replicate r.bo.length Fa.zero)).getD i []=[str emp,str emp,str emp,.sl 3 []]:=by
     rw[Bc (by simpa using hi')];simp[Fa.cs,Fa.zero,cnC]
    rw[g1,g2];exact vws_same (vws_same (vws_same (vws_cons (.nil 3) Cm)))
   refine AT.pre (args':=[ptr x,int 0,.sl 4 (biC env)]) ((Agw r (Gt r first) first f l hr hf hl hls (by rw[(Oh r first).2.1];exact hr1) (P5 r first) (Oh r first).1.2 (Gt r first).length 0 (by omega) (by simp) (by omega) hE0 (by rw[List.drop_zero,←ef];simpa using hn)).mono ?_) (by kernel_rfl) hSV (Ch _);rintro _ σ6 ⟨got',_,_,hE⟩;rw[List.drop_zero,←ef,List.nil_append]at hE;obtain⟨gb',lo,es,h1,h2,h3,h4,h5,h6,h7⟩:=hE;simp only[go_sem,h1];rcases h3 with⟨rfl,hlo|hlo⟩|⟨b,cap,rfl,hcap,hb⟩
   case' inl.inr=>exact absurd hlo h7
   case' inl.inl=>
    subst hlo;refine(Wi _).mono ?_;rintro _ σ6 rfl;simp only[go_sem,h1];refine(Uz _).mono ?_;rintro _ σ7 ⟨rfl,rfl⟩;have e0:Ks r me first f l=[]:=List.eq_nil_of_length_eq_zero (by simpa using h4.symm);obtain⟨v7,hv7⟩:∃v,v=Ax:=⟨_,rfl⟩;obtain⟨β',L,hM⟩:∃(β':St) (L:List (BV β' σ)),Ow 1 σ7 v7 (L.map BV.en)∧(∀c o,β' c=some o→σ7 c=some o)∧L.map BV.bd=Gb r me first f l∧(∀y o,σ y=some o→σ7 y=some o)∧(∀y,Own v7 y→σ y=none)∧L.length≤1000000:=
     ⟨fun _=>none,[],.inl ⟨rfl,.inl hv7⟩,fun c o h=>(by cases h),by unfold Gb;rw[e0];rfl,fun y o hy=>(h6 y o hy).1,fun y hy=>by rw[hv7]at hy;exact absurd hy Bu,by simp⟩
    rw[←hv7]
   case' inr=>
    have hxb:x≠b:=fun e=>by subst e;rw[h1]at hb;cases hb
    obtain⟨β',hβ⟩:∃β':St,β'=fun y=>if y=b∨y=x then none else σ6 y:=⟨_,rfl⟩
    have hbb:β' b=none:=by rw[hβ];simp
    have hsub:∀y o,β' y=some o→σ6 y=some o∧y≠b∧y≠x:=fun y o hy=>by
     rw[hβ]at hy;simp only at hy;split at hy
     ·cases hy
     ·rename_i hn;exact⟨hy,fun e=>hn (.inl e),fun e=>hn (.inr e)⟩
    have hin:∀y o,σ6 y=some o→y≠b→y≠x→β' y=some o:=fun y o hy n1 n2=>by
     rw[hβ];simp only;rw[if_neg (by rintro(e|e);exact n1 e;exact n2 e)];exact hy
    have hsm:=Ta r.ho r.bo (Dz first f l) (fun k y hy=>by
     unfold Dz at hy;split at hy
     ·rw[List.mem_singleton.1 hy];exact hf
     ·exact hls y hy) (Gt r first) env (List.replicate r.bo.length .zero) (fun y hy=>by rw[(List.mem_replicate.1 hy).2];simp[Fa.zero,Fa.Sm])
    rw[←ef]at hsm;obtain⟨L0,hL1,hL2⟩:∃L0:List (BV β' σ),L0.map BV.en=es∧L0.map BV.bd=Ks r me first f l:=R1 es _ h4 fun i hi=>by
     obtain⟨v,v1,v2,v3,v4⟩:=h5 i hi;have sm:=hsm _ (List.getElem_mem hi);refine⟨⟨_,v,v2.keep fun y o hy ho=>hin y o hy (fun e=>?_) (fun e=>?_),⟨?_,sm.2⟩,v4⟩,v1,rfl⟩
     ·subst e
      obtain⟨c,hc⟩:=v2.lat.own_rows ho;rw[hb]at hc;cases hc
     ·subst e
      obtain⟨c,hc⟩:=v2.lat.own_rows ho;rw[h1]at hc;cases hc
     ·rw[sm.1];simp;omega
    have hb0:σ6 b=some (.rows 1 (rw' BV.en L0.toArray) false cap):=by rw[hb,←hL1];simp[rw']
    have hlen:es.length=L0.length:=by rw[←hL1,List.length_map]
    refine(L.sort_at (fun _=>rfl) BV.one BV.cells BV.ord_at hbb (n:=es.length) (by omega) BV.swo hb0 (fun y o hy=>(hsub y o hy).1) (by simpa using hlen.symm)).mono ?_;rintro _ _ ⟨d',rfl,hp,hsd⟩;have hdl:es.length=d'.toList.length:=by rw[hp.length_eq,hlen]
    have hx7:(σ6.set b (.rows 1 (rw' BV.en d') false cap)) x=some (.cells (fiC r (.sl 1 (inC (Gs (Gt r first)))) f (.sl 4 (faC l)) (slv gb' got'.length got'.length) (slv b es.length cap) first)):=by rw[Ad hxb];exact h1
    simp only[go_sem,hx7];rw[hdl];refine(L.compact_at (fun _=>rfl) BV.one BV.cells BV.eq_at hbb (l:=d'.toList) Ab (Ak hbb fun y o hy=>(hsub y o hy).1) (by omega) (by omega)).p ?_;rw[B5];obtain⟨σ7,hσ7⟩:∃s,s=σ6.set b (.rows 1 ((Cl BV.eq d'.toList).map BV.en) false cap):=⟨_,rfl⟩;rw[←hσ7];obtain⟨v7,hv7⟩:∃v,v=slv b (Cl BV.eq d'.toList).length cap:=⟨_,rfl⟩;have hsz:d'.size=es.length:=by simpa using hdl.symm
    obtain⟨β',L,hM⟩:∃(β':St) (L:List (BV β' σ)),Ow 1 σ7 v7 (L.map BV.en)∧(∀c o,β' c=some o→σ7 c=some o)∧L.map BV.bd=Gb r me first f l∧(∀y o,σ y=some o→σ7 y=some o)∧(∀y,Own v7 y→σ y=none)∧L.length≤1000000:=by
     refine⟨β',Cl BV.eq d'.toList,.inr ⟨b,cap,by rw[List.length_map];exact hv7,?_,by rw[hσ7];exact Ab⟩,fun c o hc=>?_,?_,fun y o hy=>?_,fun y hy=>?_,by have:=O8 BV.eq d'.toList;omega⟩
     ·have:=O8 BV.eq d'.toList
      rw[List.length_map];omega
     ·rw[hσ7,Ad (hsub c o hc).2.1];exact(hsub c o hc).1
     ·unfold Gb
      refine BV.done ?_ (by rw[hsz];exact hsd);rw[←hL2];exact(hp.map BV.bd)
     ·have:=h6 y o hy
      rw[hσ7,Ad fun e=>this.2.2.2 (Bg.2 e)];exact this.1
     ·rw[hv7]at hy
      have e:=Bg.1 hy;subst e;cases h:σ y with
      |none=>rfl
      |some o=>exact absurd (Bg.2 rfl) (h6 y o h).2.2.2
    rw[←hv7]
   all_goals
    clear h1 h4 h5 h6 h7 hE0 hSV e5 k4 c4 c3 e3;obtain⟨q1,q2,q3,q4,q5,q6⟩:=hM;have hJ0:JB σ σ7 σ7 v7 (L.map BV.en) (fun _ _=>False):=⟨q4,q1,fun c b cap h7 h0=>⟨_,h7,by simp[faC],fun j hj=>⟨.sl 3 (cnC b[j].ar),by rw[Bc hj];rfl,.inl ⟨rfl,fun h=>h⟩⟩⟩⟩;simp only[go_sem,Aa,q1.lat.len];refine⟨fun m fr σ'=>∃i:Nat,m=L.length-i∧i≤L.length∧JB σ σ7 σ' v7 (L.map BV.en) (fun c _=>∃k,∃h:k<L.length,k<i∧Own L[k].v c)∧fr 14=v7∧fr 54=v7∧fr 55=int L.length∧fr 56=int i,⟨_,0,rfl,by omega,hJ0.weak (fun c b cap j h1 h2 ⟨k,_,h3,_⟩=>by omega),rfl,rfl,rfl,rfl⟩,?_⟩;rintro m fr σ8 ⟨i,rfl,hi,hJ,f14,f54,f55,f56⟩;simp only[go_sem,f55,f56];refine aIf_by (fun hlt=>?_) (fun hlt=>?_)
    ·have hil:i<L.length:=by omega
     obtain⟨X,hX⟩:∃X,X=L[i]:=⟨_,rfl⟩;have eg:(L.map BV.en).getD i []=[X.v]:=by rw[hX];simp[List.getD_eq_getElem?_getD,hil,BV.en]
     simp only[go_sem,Aa,f54,f56];refine hJ.2.1.lat.elem (by omega) (by rw[List.length_map];omega) fun e he=>?_;simp only[go_sem,Aa];refine he.load1 (by decide) (by rw[Int.toNat_natCast,eg];exact Nat.le_refl 1) ?_;simp only[go_sem,Aa,eg,X.ow.lat.len,Am];refine⟨fun mm fr σ9=>∃j:Nat,mm=X.bd.length-j∧j≤X.bd.length∧JB σ σ7 σ9 v7 (L.map BV.en) (fun c j'=>(∃k,∃h:k<L.length,k<i∧Own L[k].v c)∨(Own X.v c∧j'<j))∧fr 14=v7∧fr 16=X.v∧fr 54=v7∧fr 55=int L.length∧fr 56=int i∧fr 61=int X.bd.length∧fr 62=int j,⟨_,0,rfl,by omega,hJ.weak (fun c b cap j h1 h2 h3=>h3.resolve_right fun h=>by omega),f14,rfl,f54,f55,f56,rfl,rfl⟩,?_⟩;clear f14 f54 f55 f56 hJ fr he e;rintro mm fr σ9 ⟨j,rfl,hj,hJ,f14,f16,f54,f55,f56,f61,f62⟩;simp only[go_sem,f61,f62];refine aIf_by (fun hlt2=>?_) (fun hlt2=>?_)
     ·have hjl:j<X.bd.length:=by omega
      have hsl:=X.sm.1;have hsj:=X.sm.2 _ (List.getElem_mem hjl);rcases X.ow with⟨h0,_⟩|⟨c,cap,hv,hcap,hc⟩
      ·have:=congrArg List.length h0
       rw[Am,List.length_nil]at this;omega
      ·have hown:∀y,Own X.v y↔y=c:=fun y=>by rw[hv];exact Bg
       have h0:=X.fr c ((hown c).2 rfl);have h7:=q2 _ _ hc;obtain⟨es9,g1,g2,g3⟩:=hJ.2.2 c _ cap h7 h0;obtain⟨a,ga,gb2⟩:=g3 j hjl;have hR:Rd 3 σ9 a (cnC X.bd[j].ar):=by
        rcases gb2 with⟨rfl,_⟩|⟨h,_⟩
        ·exact .sl
        ·exact .of h.lat
       rw[Am]at hv;simp only[go_sem,Aa,f16,f62,hv,g1,ga];refine⟨by omega,by omega,(Mv X.bd[j].ar hsj hR).mono ?_⟩;rintro lv σ10 ⟨hO,hG⟩;have g10:=hG.sub _ _ g1;simp only[go_sem,Aa,f16,f62,hv,g10,ga,hO.lat.one,hO.lat.cells,A2 j (by omega)];refine⟨by omega,by omega,?_⟩;have hJ':JB σ σ7 (σ10.set c (.rows 4 (es9.set j (faX X.bd[j] lv)) false cap)) v7 (L.map BV.en) (fun c j'=>(∃k,∃h:k<L.length,k<i∧Own L[k].v c)∨(Own X.v c∧j'<j+1)):=hJ.put hG.sub h7 h0 g1 hjl hO (fun y hy=>Cj hJ.1 (hG.own hy)) fun c' j' h=>by
        rcases h with h|⟨h,hlt3⟩
        ·exact .inl (.inl h)
        ·have e:=(hown c').1 h
         by_cases ej:j'=j
         ·exact .inr ⟨e,ej⟩
         ·exact .inl (.inr ⟨h,by omega⟩)
       rw[hv]at hJ';refine⟨X.bd.length-(j+1),by omega,j+1,rfl,by omega,hJ',?_⟩
       (and_intros<;>first|assumption|rfl|omega)
     ·simp only[go_sem,Aa,f14,f54,f55,f56,A2 i (by omega)]
      have hJ':JB σ σ7 σ9 v7 (L.map BV.en) (fun c _=>∃k,∃h:k<L.length,k<i+1∧Own L[k].v c):=?_
      ·refine⟨L.length-(i+1),by omega,i+1,rfl,by omega,hJ',?_⟩
       (and_intros<;>first|assumption|rfl|omega)
      refine hJ.weak fun c b cap j' h7 hj' ⟨k,hk,hki,ho⟩=>?_;by_cases e:k=i
      ·subst e
       rw[←hX]at ho;refine .inr ⟨ho,?_⟩;rcases X.ow with⟨_,h|h⟩|⟨c',cap',hv,hcap,hc⟩
       ·rw[h]at ho;exact absurd ho Bu
       ·rw[h]at ho;exact absurd ho A3
       ·rw[hv]at ho
        have e:=Bg.1 ho;subst e;rw[q2 _ _ hc]at h7;injection h7 with h7;injection h7 with _ h7 _ _;rw[←Zs h7]at hj';omega
      ·exact .inl ⟨k,hk,by omega,ho⟩
    ·obtain rfl:i=L.length:=by omega
     simp only[go_sem,Aa,f14];refine Ac (r:=v7) rfl ⟨hJ.1,q5,L.map BV.en,hJ.2.1,by rw[←q3];simp,fun k hk=>?_⟩;have hkl:k<L.length:=by rw[←q3]at hk;simpa using hk
     have ek:(Gb r me first f l)[k]=L[k].bd:=by
      have:=List.getElem_of_eq q3.symm hk;rw[this,List.getElem_map]
     rw[ek];refine⟨L[k].v,by simp[List.getD_eq_getElem?_getD,hkl,BV.en],?_⟩;rcases L[k].ow with⟨h0,h⟩|⟨c,cap,hv,hcap,hc⟩
     ·exact .inl ⟨List.map_eq_nil_iff.1 h0,h⟩
     ·rw[Am]at hv hcap
      have hown:Own L[k].v c:=by rw[hv];exact Bg.2 rfl
      obtain⟨es9,g1,g2,g3⟩:=hJ.2.2 c _ cap (q2 _ _ hc) (L[k].fr c hown);refine .inr ⟨c,cap,hv,hcap,L[k].fr c hown,es9,g1,g2,fun j hj=>?_⟩;obtain⟨a,ga,gb2⟩:=g3 j hj;exact⟨a,ga,.inr (gb2.resolve_left fun h=>h.2 ⟨k,hkl,hkl,hown⟩)⟩
end
def N1(ho:Tm):List Li→List Fa→List Bi→Option (List Bi)
 | [],[],e=>some e
 |l::ls,x::xs,e=>(Fi ho l x e).bind (N1 ho ls xs)
 |_,_,_=>none
theorem R4{α:Type}{c:α→α→Int}(h:Fo c):∀{k l:List α},Cp c l→Cp c k→(∀y,y∈l→y∈k)→l.length≤k.length
 |k,[],_,_,_=>by simp
 | [],x::l,_,_,hs=>by have:=hs x (by simp);cases this
 |y::k,x::l,hl,hk,hs=>by
  obtain⟨h1,h2⟩:=List.pairwise_cons.1 hl;obtain⟨k1,k2⟩:=List.pairwise_cons.1 hk;have irr:∀z,¬c z z<0:=fun z hz=>by rw[h.self]at hz;omega
  have:l.length≤k.length:=by
   refine R4 h h2 k2 fun z hz=>?_;rcases List.mem_cons.1 (hs z (by simp[hz]))with e|hz'
   ·exfalso
    subst e;have hx:=h1 z hz;rcases List.mem_cons.1 (hs x (by simp))with e|hx'
    ·subst e;exact irr _ hx
    ·exact irr _ (h.trans _ _ _ hx (k1 x hx'))
   ·exact hz'
  simp only[List.length_cons];omega
def InC(σ0 σ:St)(c:Nat)(out:List Fa):Prop:=∃lv,σ c=some (.cells [lv])∧Ow 4 σ lv (faC out)∧∀y o,σ0 y=some o→σ y=some o∧¬Own lv y∧y≠c
theorem InC.more{σ0 σ σ':St}{c:Nat}{out:List Fa}(h:InC σ0 σ c out)(hs:∀y o,σ y=some o→σ' y=some o):InC σ0 σ' c out:=by
 obtain⟨lv,h1,h2,h3⟩:=h;exact⟨lv,hs _ _ h1,h2.sub hs,fun y o hy=>⟨hs _ _ (h3 y o hy).1,(h3 y o hy).2⟩⟩
structure LyF(B:List De)(base out:List Fa):Prop where
 ris:Cp A4 out
 own:∀x∈out,x∈base∨∃d∈B,d.hd=x
theorem LyF.len{B:List De}{base out:List Fa}(h:LyF B base out):out.length≤base.length+B.length:=by
 have h1:=R4 Ap h.ris (C8 (l:=B.map De.hd) Ap (C8 (l:=base) Ap .nil)) fun y hy=>by
  rw[C7 Ap,C7 Ap];rcases h.own y hy with h|⟨d,hd,e⟩
  ·exact .inr (.inl h)
  ·exact .inl (List.mem_map.2 ⟨d,hd,e⟩)
 have h2:=Cu (c:=A4) (s:=Cc A4 [] base) (l:=B.map De.hd);have h3:=Cu (c:=A4) (s:=[]) (l:=base);simp only[List.length_map,List.length_nil]at h2 h3;omega
theorem LyF.step{B:List De}{base out:List Fa}{d:De}(hd:d∈B)(h:LyF B base out):LyF B base (By A4 d.hd out):=⟨Fv Ap h.ris,fun x hx=>by
 rcases(Fq Ap).1 hx with rfl|hx
 ·exact .inr ⟨d,hd,rfl⟩
 ·exact h.own x hx⟩
section
variable{σ:St}{t c:Nat}{B:List De}
theorem Ad0{σ0:St}{out:List Fa}(h:InC σ0 σ c out)(hr:Cp A4 out)(hl:out.length≤4000000000000)(hs:∀y∈out,y.Sm)(f:Fa)(hf:f.Sm):AT Tryz.prog 178 [.agg f.cs,ptr c] σ fun r σ'=>r=boo (decide (f∈out))∧σ'=σ:=by
 refine AT.ob Tryz.func178 rfl ?_;obtain⟨lv,h1,h2,h3⟩:=h;simp only[go_sem];refine Ctx.nil.alloc fun p σ1 c1=>?_;have hp:=c1.g0;have hsb:=c1.sub;clear c1;simp only[go_sem,hp,hsb _ _ h1];refine(BF.bsearch_at out f hl hs hf hr (.of (h2.sub hsb).lat)).mono ?_;rintro _ σ1 ⟨⟨k,rfl,hk⟩,rfl⟩;simp only[go_sem];exact Ae (r:=boo _) rfl _ σ (Ao hsb) ⟨rfl,rfl⟩
theorem Xn{v0:AV}(h:BK σ t B)(hB:BOk B)(base:List Fa)(h0:Rd 4 σ v0 (faC base))(hl:base.length≤50000000000)(hls:∀f∈base,f.Sm):AT Tryz.prog 130 [ptr t,v0] σ fun v σ'=>Made σ σ' v (Fe B base):=by
 refine AT.ob Tryz.func130 rfl ?_;have hbs:=hB.sm;have hbl:=hB.len;have sm:∀{out:List Fa},LyF B base out→∀y∈out,y.Sm:=fun h y hy=>by
  rcases h.own y hy with h|⟨d,hd,rfl⟩
  ·exact hls y h
  ·exact(hbs d hd).1
 simp only[go_sem];refine(Lh h).p ?_;simp only[go_sem];refine(Ib base h0 (by omega) hls).mono ?_;rintro lv σ1 ⟨hO,hs1,hn1⟩;simp only[go_sem];refine Al fun c hc hcn=>?_;simp only[go_sem,hO.lat.one,hO.lat.cells,Ab];simp only[Dx,B7];have hcσ:σ c=none:=Cj hs1 hc
 have hI0:InC σ (σ1.set c (.cells [lv])) c (Cc A4 [] base):=⟨lv,Ab,hO.sub fun y o hy=>by rw[Ad (fun e=>by rw[e,hc]at hy;cases hy)];exact hy,fun y o hy=>by
  have hyc:y≠c:=fun e=>by rw[e,hcσ]at hy;cases hy
  exact⟨by rw[Ad hyc];exact hs1 _ _ hy,(fun ho=>by rw[hn1 y ho]at hy;cases hy),hyc⟩⟩
 have hY0:LyF B base (Cc A4 [] base):=⟨C8 Ap .nil,fun x hx=>by
  rcases(C7 Ap).1 hx with h|h
  ·exact .inl h
  ·cases h⟩
 have hk0:Rr B (Cc A4 [] base)<B.length+1:=Nat.lt_succ_of_le (List.length_filter_le _ _);obtain⟨fin,hfin⟩:∃fin,fin=Fe B base:=⟨_,rfl⟩;have hf0:Tc B (B.length+1) (Cc A4 [] base)=fin:=by rw[hfin];rfl
 rw[←hfin];generalize σ1.set c (.cells [lv])=σ2 at hI0;generalize Cc A4 [] base=out0 at hI0 hY0 hk0 hf0;simp only[go_sem,Aa];refine⟨fun m fr σ'=>∃(out:List Fa) (mr:Bool),InC σ σ' c out∧LyF B base out∧(mr=true→Rr B out<m∧Tc B m out=fin)∧(mr=false→out=fin)∧fr 0=ptr t∧fr 5=ptr c∧fr 6=clo 178 c∧fr 7=boo mr,⟨B.length+1,out0,true,hI0,hY0,fun _=>⟨hk0,hf0⟩,fun e=>(by cases e),rfl,rfl,rfl,rfl⟩,?_⟩;clear hI0 hY0 hk0 hf0 hfin hO hs1 hn1 hc hcn;rintro m fr σ2 ⟨out,mr,hI,hY,hm1,hm2,f0,f5,f6,f7⟩;simp only[go_sem,f7];refine aIf_bool (fun hmr=>?_) (fun hmr=>?_)
 ·obtain⟨hlk,hfu⟩:=hm1 hmr
  obtain⟨n,rfl⟩:∃n,m=n+1:=⟨m-1,by omega⟩;have hBK:BK σ2 t B:=by
   obtain⟨lv,_,_,h3⟩:=hI;exact(h3 _ _ h).1
  have h0:=hBK;unfold BK at h0;simp only[go_sem,Aa,f0,h0,Bt];refine⟨fun mm fr σ'=>∃(i:Nat) (o:List Fa) (more:Bool),mm=B.length-i∧i≤B.length∧(B.take i).foldl Ft (out,false)=(o,more)∧InC σ σ' c o∧LyF B base o∧fr 0=ptr t∧fr 5=ptr c∧fr 6=clo 178 c∧fr 7=boo more∧fr 23= .sl 6 (deC B)∧fr 24=int B.length∧fr 25=int i,⟨_,0,out,false,rfl,by omega,rfl,hI,hY,f0,f5,f6,rfl,rfl,rfl,rfl⟩,?_⟩;clear hI hY hm1 hm2 h0 hBK f0 f5 f6 f7 fr;rintro mm fr σ3 ⟨i,o,more,rfl,hi,hfo,hI,hY,f0,f5,f6,f7,f23,f24,f25⟩;simp only[go_sem,f24,f25];refine aIf_by (fun hlt=>?_) (fun hlt=>?_)
  ·have hil:i<B.length:=by omega
   obtain⟨d,hd⟩:∃d,d=B[i]:=⟨_,rfl⟩;have hdm:d∈B:=by rw[hd];exact List.getElem_mem hil
   have hds:=hbs d hdm;have hol:=hY.len;have nx:=A2 i (by omega);have hfo':(B.take (i+1)).foldl Ft (out,false)=Ft (o,more) d:=by
    rw[List.take_add_one,List.getElem?_eq_getElem hil,List.foldl_append,hfo,hd];rfl
   have dg:(deC B).getD i []=d.cs:=by rw[hd];exact H1 hil
   simp only[go_sem,Aa,f23,f25,dg,Bt];refine⟨by omega,Ctx.nil.alloc fun q σ4 c4=>?_⟩;obtain⟨σ5,e5,c5⟩:=c4.abs 0 rfl (.cells d.cs);have hq:=c5.g0;have hI5:=hI.more c5.sub;simp only at hq;simp only[go_sem,Aa,c4.g0,e5,f6,hq];clear e5 c5 c4;refine(Ad0 hI5 hY.ris (by omega) (sm hY) d.hd hds.1).p ?_;by_cases hin:d.hd∈o
   ·have d1:=decide_eq_true hin
    have er:Ft (o,more) d=(o,more):=by unfold Ft;rw[if_pos hin]
    rw[er]at hfo';simp only[go_sem,Aa,d1,f0,f5,f6,f7,f23,f24,f25,nx];refine⟨B.length-(i+1),by omega,i+1,o,more,?_⟩
    (and_intros<;>first|assumption|rfl|omega)
   ·have d1:=decide_eq_false hin
    have bl:=Am d.bo;have hbol:=hds.2.1;simp only[go_sem,Aa,d1,hq,bl];refine⟨fun m5 fr σ'=>∃j:Nat,m5=d.bo.length-j∧j≤d.bo.length∧(∀x∈d.bo.take j,x∈o)∧InC σ σ' c o∧σ' q=some (.cells d.cs)∧fr 0=ptr t∧fr 5=ptr c∧fr 6=clo 178 c∧fr 7=boo more∧fr 9=ptr q∧fr 23= .sl 6 (deC B)∧fr 24=int B.length∧fr 25=int i∧fr 34= .sl 4 (faC d.bo)∧fr 35=int d.bo.length∧fr 36=int j,⟨_,0,rfl,by omega,fun x hx=>by simp at hx,hI5,hq,f0,f5,f6,f7,rfl,f23,f24,f25,rfl,rfl,rfl⟩,?_⟩;clear hI hI5 hq f0 f5 f6 f7 f23 f24 f25 fr;rintro m5 fr σ6 ⟨j,rfl,hj,hall,hI,hq,f0,f5,f6,f7,f9,f23,f24,f25,f34,f35,f36⟩;simp only[go_sem,f35,f36];refine aIf_by (fun hltj=>?_) (fun hltj=>?_)
    ·have hjl:j<d.bo.length:=by omega
     have bg:=Bc hjl;have hxs:=hds.2.2 _ (List.getElem_mem hjl);simp only[go_sem,Aa,f34,f36,bg,bl];refine⟨by omega,Ctx.nil.alloc fun u σ7 c7=>?_⟩;obtain⟨σ8,e8,c8⟩:=c7.abs 0 rfl (.cells d.bo[j].cs);have hu:=c8.g0;have hI8:=hI.more c8.sub;have hq8:=c8.sub _ _ hq;simp only at hu;simp only[go_sem,Aa,c7.g0,e8,f6,hu];clear e8 c8 c7;refine(Ad0 hI8 hY.ris (by omega) (sm hY) d.bo[j] hxs).p ?_;by_cases hjn:d.bo[j]∈o
     ·have d2:=decide_eq_true hjn
      have hall':∀x∈d.bo.take (j+1),x∈o:=fun x hx=>by
       rw[List.take_add_one,List.getElem?_eq_getElem hjl]at hx;rcases List.mem_append.1 hx with h|h
       ·exact hall x h
       ·simp at h;subst h;exact hjn
      simp only[go_sem,Aa,d2,Bool.not_true,f0,f5,f6,f7,f9,f23,f24,f25,f34,f35,f36,A2 j (by omega)];refine⟨d.bo.length-(j+1),by omega,j+1,?_⟩
      (and_intros<;>first|assumption|rfl|omega)
     ·have d2:=decide_eq_false hjn
      have er:Ft (o,more) d=(o,more):=by
       unfold Ft;rw[if_neg hin,if_neg fun h=>hjn (h _ (List.getElem_mem hjl))]
      rw[er]at hfo';simp only[go_sem,Aa,d2,Bool.not_false,f0,f5,f6,f7,f23,f24,f25,nx];refine⟨B.length-(i+1),by omega,i+1,o,more,?_⟩
      (and_intros<;>first|assumption|rfl|omega)
    ·rw[List.take_of_length_le (by omega)]at hall
     have er:Ft (o,more) d=(By A4 d.hd o,true):=by
      unfold Ft;rw[if_neg hin,if_pos hall]
     rw[er]at hfo';obtain⟨lv,h1,h2,h3⟩:=hI;simp only[go_sem,Aa,f5,f9,h1,hq];refine(BF.bsearch_at o d.hd (by omega) (sm hY) hds.1 hY.ris (.of h2.lat)).mono ?_;rintro _ σ6 ⟨⟨k,rfl,hk1,hk2,hk3⟩,rfl⟩;simp only[go_sem,Aa];refine Ag [.rd 0 true,.rd 1 false,.rd 2 true,.ef 3 [0],.rd 4 false,.rd 5 false,.ef 6 [],.ef 7 []] ?_;simp only[go_sem,Aa,f5,f9,h1,hq];refine(X6 d hds).p ?_;simp only[go_sem,Aa,f5,h1];refine(BF.insert_at o d.hd k hk1 (by omega) h2).mono ?_;rintro r σ7 ⟨hO3,hK⟩;have hins:=I4 (c:=A4) hk1 hk2 hk3;rw[if_neg (fun⟨h,e⟩=>hin (by rw[←(Ap.zero _ _).1 e];exact List.getElem_mem h))]at hins;rw[←hins]at hO3;have hL:=hO3.lat;have hc7:=hK _ _ h1 (h2.lat.not_own h1)
     have hI7:InC σ (σ7.set c (.cells [r])) c (By A4 d.hd o):=⟨r,Ab,hO3.keep fun y o hy ho=>by rw[Ad (fun e=>by rw[e]at ho;exact hc7.2 ho)];exact hy,fun y o hy=>by
      obtain⟨y1,y2,y3⟩:=h3 y o hy;have y4:=hK _ _ y1 y2;exact⟨by rw[Ad y3];exact y4.1,y4.2,y3⟩⟩
     have hY7:=hY.step hdm;simp only[go_sem,Aa,f0,f5,f6,f7,f23,f24,f25,hc7.1,hL.one,hL.cells,nx];refine⟨B.length-(i+1),by omega,i+1,By A4 d.hd o,true,?_⟩
     (and_intros<;>first|assumption|rfl|omega)
  ·rw[List.take_of_length_le (by omega)]at hfo
   have hfo:rnd B out=(o,more):=hfo;have hlk2:more=true→Rr B o<n:=fun e=>by
    have:=Aht (B:=B) (out:=out) (by rw[hfo];exact e);rw[hfo]at this;simp only at this;omega
   have hfu2:(if more=true then Tc B n o else o)=fin:=by
    rw[←hfu];show _=if(rnd B out).2=true then Tc B n (rnd B out).1 else(rnd B out).1
    rw[hfo]
   have hm1':more=true→Rr B o<n∧Tc B n o=fin:=fun e=>⟨hlk2 e,by rw[if_pos e]at hfu2;exact hfu2⟩;have hm2':more=false→o=fin:=fun e=>by rw[e]at hfu2;exact hfu2
   simp only[go_sem,Aa,f0,f5,f6,f7];refine⟨n,by omega,o,more,?_⟩
   (and_intros<;>first|assumption|rfl|omega)
 ·obtain⟨lv,h1,h2,h3⟩:=hI
  have e:=hm2 hmr;subst e;simp only[go_sem,Aa,f5,h1]
  exact Ac (r:=lv) rfl ⟨h2,fun y o hy=>(h3 y o hy).1,fun x hx=>by
   cases hs:σ x with
   |none=>rfl
   |some o=>exact absurd hx (h3 x o hs).2.1⟩
end
abbrev Ot(b1 b2:Nat):AV:=.v (.func (.func 172) #[] #[.pointer (some ⟨b1,0,none⟩),.pointer (some ⟨b2,0,none⟩)])
section
variable{σ:St}{t l:Nat}{T:List Fa}{lim:Int}
theorem Afs(f:Fa):AT Tryz.prog 117 [.agg f.cs] σ fun r σ'=>r=boo true∧σ'=σ:=by
 refine AT.ob Tryz.func117 rfl ?_;simp only[go_sem];refine Ctx.nil.alloc fun p σ1 c1=>?_;simp only[go_sem];exact Ae (r:=boo true) rfl _ σ (c1.view _) ⟨rfl,rfl⟩
theorem T9:AT Tryz.prog 61 [ptr t] σ fun v σ'=>∃b1 b2,v=Ot b1 b2∧Ctx σ [(b2,.cells [fnv 117]),(b1,.cells [ptr t])] σ':=by
 have hs:AT Tryz.prog 116 [ptr t,fnv 117] σ fun v σ'=>∃b1 b2,v=Ot b1 b2∧Ctx σ [(b2,.cells [fnv 117]),(b1,.cells [ptr t])] σ':=by
  refine AT.ob Tryz.func116 rfl ?_;simp only[go_sem];refine Ctx.nil.alloc fun b1 σ1 c1=>?_;simp only[go_sem];refine c1.alloc fun b2 σ2 c2=>?_;simp only[go_sem];simp only[Dx,B7];simp only[go_sem];exact Ac (r:=Ot b1 b2) rfl ⟨b1,b2,rfl,c2⟩
 refine AT.ob Tryz.func61 rfl ?_;simp only[go_sem];refine hs.mono ?_;rintro _ σ1 ⟨b1,b2,rfl,c⟩;simp only[go_sem];exact Ac (r:=Ot b1 b2) rfl ⟨b1,b2,rfl,c⟩
theorem Ni{b1 b2:Nat}(hT:TOk T lim)(Inv:Nat→St→Prop)(h0:∀i σ',Inv i σ'→TB σ' t T lim∧σ' b1=some (.cells [ptr t])∧σ' b2=some (.cells [fnv 117]))
  (hmore:∀i σ' σ'',Inv i σ'→(∀y o,σ' y=some o→σ'' y=some o)→Inv i σ'') (step:∀i σ' (h:i<T.length),Inv i σ'→YC Tryz.prog l [.agg T[i].cs] σ' fun v σ''=>v=boo true∧Inv (i+1) σ'') (hI:Inv 0 σ):
  AT Tryz.prog 172 [Yu l,ptr b1,ptr b2] σ fun _ σ'=>Inv T.length σ':=by
 refine AT.ob Tryz.func172 rfl ?_;obtain⟨g1,g2,g3⟩:=h0 _ _ hI;have tl:=Am T;have tlen:=hT.len;simp only[go_sem,g2];refine(Mk g1).p ?_;have d1:=decide_eq_false hT.lim;have g1':=g1;unfold TB at g1';simp only[go_sem,Aa,d1,g2,g1',tl];refine⟨fun m fr σ'=>∃i:Nat,m=T.length-i∧i≤T.length∧Inv i σ'∧fr 0=Yu l∧fr 1=ptr b1∧fr 2=ptr b2∧fr 11= .sl 4 (faC T)∧fr 12=int T.length∧fr 13=int i,⟨_,0,rfl,by omega,hI,rfl,rfl,rfl,rfl,rfl,rfl⟩,?_⟩;clear g1 g2 g3 g1' hI;rintro m fr σ1 ⟨i,rfl,hi,hI,f0,f1,f2,f11,f12,f13⟩;simp only[go_sem,f12,f13];refine aIf_by (fun hlt=>?_) (fun hlt=>?_)
 ·have hil:i<T.length:=by omega
  have sx:=hT.sm _ (List.getElem_mem hil);simp only[go_sem,Aa,f11,f13,Bc hil,tl];refine⟨by omega,Ctx.nil.alloc fun q σ2 c2=>?_⟩;obtain⟨σ3,e3,c3⟩:=c2.abs 0 rfl (.cells T[i].cs);have hq:=c3.g0;have hI3:=hmore _ _ _ hI c3.sub;simp only at hq;obtain⟨g1,g2,g3⟩:=h0 _ _ hI3;simp only[go_sem,Aa,c2.g0,e3,f2,hq,g3];clear e3 c3 c2;refine(Afs T[i]).p ?_;simp only[go_sem,Aa,Bool.not_true,hq];refine(Gd T[i].ar sx).p ?_;have esp:Au T[i].cs 3 [.sl 3 (cnC T[i].ar)]=T[i].cs:=rfl;have eid:σ3.set q (.cells T[i].cs)=σ3:=Bv hq;simp only[go_sem,Aa,f0,hq,esp,eid];refine(step i σ3 hil hI3).mono ?_;rintro _ σ4 ⟨rfl,hI4⟩;simp only[go_sem,Aa,Bool.not_true,f0,f1,f2,f11,f12,f13,A2 i (by omega)];refine⟨T.length-(i+1),by omega,i+1,?_⟩
  (and_intros<;>first|assumption|rfl|omega)
 ·have e:i=T.length:=by omega
  rw[e]at hI;simp only[go_sem,Aa];exact Ac (r:=.tup []) rfl hI
end
section
variable{σ:St}{t b1 b2:Nat}{T:List Fa}{lim:Int}
theorem Aa5(h:TB σ t T lim)(hT:TOk T lim)(h1:σ b1=some (.cells [ptr t]))(h2:σ b2=some (.cells [fnv 117])):AT Tryz.prog 129 [Ax,Ot b1 b2] σ fun r σ'=>r= .sl 4 (faC T)∧σ'=σ:=by
 have hm:AT Tryz.prog 129 [Ax,Ot b1 b2] σ fun r σ'=>LAt 4 σ' r (faC T)∧Cz σ σ' r:=by
  refine AT.ob Tryz.func129 rfl ?_;have tlen:=hT.len;simp only[go_sem];refine Al fun d hd hdm=>?_;have hI0:=OnI.start hd;obtain⟨σ2,e2⟩:∃s,s=σ.set d (.cells [Ax]):=⟨_,rfl⟩;rw[←e2]at hI0⊢;clear e2 hdm;simp only[go_sem,Aa];refine Js (fun fr=>fr 2=ptr d) rfl fun assign body fr hA hB f2=>?_;intro n l hl hlm;have htl:=hI0.none hl;have hsl:∀y o,σ2 y=some o→(σ2.set l (.loop fr n [7] assign body .ready none)) y=some o:=A9 hl fun _ _ h=>h;refine(Ni (t:=t) (b1:=b1) (b2:=b2) hT (fun i σ'=>OnI σ d (T.take i) σ'∧σ' l=some (.loop fr n [7] assign body .ready none)) ?_ ?_ ?_ ⟨by simpa using hI0.more hsl,Ab⟩).mono ?_
  ·rintro i σ5 ⟨g1,g2⟩
   exact⟨g1.sub h,g1.sub h1,g1.sub h2⟩
  ·rintro i σ5 σ6 ⟨g1,g2⟩ hs
   exact⟨g1.more hs,hs _ _ g2⟩
  ·rintro i σ5 hil ⟨g1,g2⟩
   refine Qs hA g2 rfl (by rw[hA,hB];rfl) ?_;have hbg:=fun k fr1 σ1=>Su (P:=Tryz.prog) (l:=l) (fr:=fr) (fr1:=fr1) (σ1:=σ1) (ps:=[7]) (n:=n) (assign:=assign) (k:=k) hB;simp only[go_sem];refine Al fun q hq hqm=>?_;obtain⟨σ6,e6⟩:∃s,s=σ5.set q (.cells T[i].cs):=⟨_,rfl⟩;have hs6:∀y o,σ5 y=some o→σ6 y=some o:=by rw[e6];exact A9 hq fun _ _ h=>h
   have hq6:σ6 q=some (.cells T[i].cs):=by rw[e6];exact Ab
   have g1':=g1.more hs6;have g2':=hs6 _ _ g2;simp only[go_sem,Ab,B5,←e6,hbg];clear e6 hqm hq g1 g2;refine⟨g2',?_⟩;have g3:=g1'.loop (σ':=σ6.set l (.loop fr n [7] assign body .busy none)) g2' htl fun y hy=>Ad hy;have g4:(σ6.set l (.loop fr n [7] assign body .busy none)) l=some (.loop fr n [7] assign body .busy none):=Ab;have g5:(σ6.set l (.loop fr n [7] assign body .busy none)) q=some (.cells T[i].cs):=by rw[Ad (fun e=>by rw[e,g2']at hq6;cases hq6)];exact hq6
   revert g3 g4 g5;generalize σ6.set l (.loop fr n [7] assign body .busy none)=σ7;intro g3 g4 g5;obtain⟨hd0,lv,k1,k2,k3⟩:=g3;have hld:l≠d:=fun e=>by rw[e,k1]at g4;cases g4
   have nl:¬Own lv l:=fun ho=>by obtain⟨cap,h⟩:=k2.own_rows ho;rw[g4]at h;cases h
   simp only[go_sem,Aa,f2,k1,g5];refine As (ys:=[T[i].cs]) rfl (by decide) (by decide) (by decide) (k2.app (by rw[Am,List.length_take];simp only[List.length_cons,List.length_nil];omega) fun lv' σ8 hL4 hs4=>?_);obtain⟨g6,g7⟩:=OnI.app hd0 k1 k2 k3 hL4 hs4;have m6:=hs4 _ _ g4 nl;simp only[go_sem,Aa,g7,f2,hL4.one,hL4.cells,Tu];have g6':(σ8.set d (.cells [lv'])) l=some (.loop fr n [7] assign body .busy none):=by rw[Ad hld];exact m6.1
   have ht:T.take i++[T[i]]=T.take (i+1):=by rw[List.take_add_one,List.getElem?_eq_getElem hil];rfl
   rw[ht]at g6;exact⟨⟨_,g6'⟩,g6.loop (σ':=(σ8.set d (.cells [lv'])).set l (.loop fr n [7] assign body .ready none)) g6' htl (fun y hy=>Ad hy)⟩
  ·rintro _ σ5 ⟨g1,g2⟩
   rw[List.take_of_length_le (by omega)]at g1;have hdel:∀y,y≠l→(σ5.del l) y=σ5 y:=fun y hy=>by simp only[St.del];rw[if_neg hy]
   have g3:=g1.loop g2 htl hdel;unfold Ij;rw[g2];refine⟨(by intro h;cases h),?_⟩;unfold Nn
   dsimp only
   obtain⟨_,lv,k1,k2,k3⟩:=g3;simp only[go_sem,Aa,f2,k1];exact Ac (r:=lv) rfl ⟨k2,k3⟩
 exact hm.post (by kernel_rfl) fun r σ' ⟨h1,h2⟩=>⟨_,_,H9 h1 h2,rfl,rfl⟩
theorem Xa(h:TB σ t T lim)(hT:TOk T lim)(h1:σ b1=some (.cells [ptr t]))(h2:σ b2=some (.cells [fnv 117])):AT Tryz.prog 75 [Ot b1 b2] σ fun r σ'=>r= .sl 4 (faC T)∧σ'=σ:=by
 refine AT.ob Tryz.func75 rfl ?_;simp only[go_sem];refine(Aa5 h hT h1 h2).p ?_;simp only[go_sem];exact Ac (r:=.sl 4 _) rfl ⟨rfl,rfl⟩
end
structure ES where
 me:ByteArray
 names:List ByteArray
 rules:List Rl
 T:List Fa
 lim:Int
 B:List De
 given:List Fa
 queue:List Fa
 outs:List (Fa×Bool)
 full:Bool
structure EA where
 t:Nat
 b:Nat
 gv:AV
 qv:AV
 ov:AV
def ouC(l:List (Fa×Bool)):List (List AV):=l.map fun x=>x.1.cs++[boo x.2]
@[go_sem] theorem Z8(l:List (Fa×Bool)):(ouC l).length=l.length:=by simp[ouC]
def evC(r:Bool)(s:ES)(a:EA)(hv:Bool):List AV:=str s.me::.sl 1 (stC s.names)::.sl 11 (rlC s.rules)::ptr a.t::ptr a.b::a.gv::a.qv::a.ov::boo s.full::(if r=true then[boo hv]else[])
def bkT(r:Bool)(B:List De):Bn:=.cells (.sl 6 (deC B)::(if r=true then[]else[boo true]))
def Dh(x:Nat)(a:EA)(y:Nat):Prop:=y=x∨y=a.t∨y=a.b∨Own a.gv y∨Hc a.qv y∨Own a.ov y
structure EV(r:Bool)(σ:St)(x:Nat)(a:EA)(s:ES)(hv:Bool):Prop where
 cx:σ x=some (.cells (evC r s a hv))
 ct:σ a.t=some (tbC s.T s.lim)
 cb:σ a.b=some (bkT r s.B)
 cg:if r=true then a.gv= .sl 4 (faC s.given)else LAt 4 σ a.gv (faC s.given)
 cq:LQ 4 σ a.qv (faC s.queue)
 co:LAt 5 σ a.ov (ouC s.outs)
 xt:x≠a.t
 xb:x≠a.b
 tb:a.t≠a.b
 gq:∀y,Own a.gv y→¬Hc a.qv y
def Frm(x:Nat)(a a':EA)(σ σ':St):Prop:=∀y o,σ y=some o→¬Dh x a y→σ' y=some o∧¬Dh x a' y
theorem Frm.refl{x:Nat}{a:EA}{σ:St}:Frm x a a σ σ:=fun _ _ h n=>⟨h,n⟩
theorem Frm.trans{x:Nat}{a1 a2 a3:EA}{σ1 σ2 σ3:St}(h:Frm x a1 a2 σ1 σ2)(k:Frm x a2 a3 σ2 σ3):Frm x a1 a3 σ1 σ3:=fun y o hy hn=>k y o (h y o hy hn).1 (h y o hy hn).2
section
variable{r hv hv':Bool}{σ σ' σ1:St}{x:Nat}{a:EA}{s:ES}
theorem Ag0(h1:a.gv.one=true)(h2:a.qv.one=true)(h3:a.ov.one=true):(evC r s a hv).all AV.one=true:=by
 cases r with
 |true=>
  show(true&&(true&&(true&&(true&&(true&&(a.gv.one&&(a.qv.one&&(a.ov.one&&(true&&(true&&true))))))))))=true;rw[h1,h2,h3];rfl
 |false=>
  show(true&&(true&&(true&&(true&&(true&&(a.gv.one&&(a.qv.one&&(a.ov.one&&(true&&true)))))))))=true;rw[h1,h2,h3];rfl
theorem EV.gone(h:EV r σ x a s hv):a.gv.one=true:=by
 have:=h.cg;split at this
 ·rw[this];rfl
 ·exact this.one
theorem EV.all1(h:EV r σ x a s hv):(evC r s a hv).all AV.one=true:=Ag0 h.gone h.cq.one h.co.one
theorem EV.grow(h:EV r σ x a s hv){y:Nat}(ho:Own a.gv y):∃cap,σ y=some (.rows 4 (faC s.given) false cap):=by
 have:=h.cg;split at this
 ·rw[this]at ho;exact absurd ho Jy
 ·exact this.own_rows ho
theorem EV.rowG(h:EV r σ x a s hv){y:Nat}{cs:List AV}(hy:σ y=some (.cells cs)):¬Own a.gv y:=fun ho=>by
 obtain⟨c,hc⟩:=h.grow ho;rw[hy]at hc;cases hc
theorem EV.goq(h:EV r σ x a s hv){y:Nat}(ho:Own a.ov y):¬Own a.gv y∧¬Hc a.qv y:=by
 obtain⟨c,hc⟩:=h.co.own_rows ho;constructor
 ·intro h1
  obtain⟨c',h1⟩:=h.grow h1;rw[hc]at h1;cases h1
 ·intro h1
  obtain⟨rs,c',h1⟩:=h.cq.rows h1;rw[hc]at h1;cases h1
theorem EV.keep(h:EV r σ x a s hv)(hs:∀y o,σ y=some o→Dh x a y→σ' y=some o):EV r σ' x a s hv where
 cx:=hs _ _ h.cx (.inl rfl)
 ct:=hs _ _ h.ct (.inr (.inl rfl))
 cb:=hs _ _ h.cb (.inr (.inr (.inl rfl)))
 cg:=by
  have:=h.cg;split at this
  ·rename_i e;rw[if_pos e];exact this
  ·rename_i e;rw[if_neg e];exact this.keep fun y o hy ho=>hs y o hy (.inr (.inr (.inr (.inl ho))))
 cq:=h.cq.keep fun y o hy ho=>hs y o hy (.inr (.inr (.inr (.inr (.inl ho)))))
 co:=h.co.keep fun y o hy ho=>hs y o hy (.inr (.inr (.inr (.inr (.inr ho)))))
 xt:=h.xt
 xb:=h.xb
 tb:=h.tb
 gq:=h.gq
theorem EV.more(h:EV r σ x a s hv)(hs:∀y o,σ y=some o→σ' y=some o):EV r σ' x a s hv:=h.keep fun y o hy _=>hs y o hy
theorem EV.noX(h:EV r σ x a s hv):¬Own a.gv x∧¬Hc a.qv x∧¬Own a.ov x:=⟨h.rowG h.cx,h.cq.not_cells h.cx,h.co.not_own h.cx⟩
theorem EV.noT(h:EV r σ x a s hv):¬Own a.gv a.t∧¬Hc a.qv a.t∧¬Own a.ov a.t:=⟨h.rowG h.ct,h.cq.not_cells h.ct,h.co.not_own h.ct⟩
theorem EV.noB(h:EV r σ x a s hv):¬Own a.gv a.b∧¬Hc a.qv a.b∧¬Own a.ov a.b:=⟨h.rowG h.cb,h.cq.not_cells h.cb,h.co.not_own h.cb⟩
theorem EV.setX(h:EV r σ x a s hv){f:Bool}:EV r (σ.set x (.cells (evC r {s with full:=f} a hv'))) x a {s with full:=f} hv' where
 cx:=Ab
 ct:=by rw[Ad h.xt.symm];exact h.ct
 cb:=by rw[Ad h.xb.symm];exact h.cb
 cg:=by
  have:=h.cg;split at this
  ·rename_i e;rw[if_pos e];exact this
  ·rename_i e;rw[if_neg e];exact this.keep fun y o hy ho=>by rw[Ad (fun e=>by rw[e]at ho;exact h.noX.1 ho)];exact hy
 cq:=h.cq.keep fun y o hy ho=>by rw[Ad (fun e=>by rw[e]at ho;exact h.noX.2.1 ho)];exact hy
 co:=h.co.keep fun y o hy ho=>by rw[Ad (fun e=>by rw[e]at ho;exact h.noX.2.2 ho)];exact hy
 xt:=h.xt
 xb:=h.xb
 tb:=h.tb
 gq:=h.gq
theorem EV.setT(h:EV r σ x a s hv){T:List Fa}:EV r (σ.set a.t (tbC T s.lim)) x a {s with T:=T} hv where
 cx:=by rw[Ad h.xt];exact h.cx
 ct:=Ab
 cb:=by rw[Ad h.tb.symm];exact h.cb
 cg:=by
  have:=h.cg;split at this
  ·rename_i e;rw[if_pos e];exact this
  ·rename_i e;rw[if_neg e];exact this.keep fun y o hy ho=>by rw[Ad (fun e=>by rw[e]at ho;exact h.noT.1 ho)];exact hy
 cq:=h.cq.keep fun y o hy ho=>by rw[Ad (fun e=>by rw[e]at ho;exact h.noT.2.1 ho)];exact hy
 co:=h.co.keep fun y o hy ho=>by rw[Ad (fun e=>by rw[e]at ho;exact h.noT.2.2 ho)];exact hy
 xt:=h.xt
 xb:=h.xb
 tb:=h.tb
 gq:=h.gq
theorem EV.setB(h:EV r σ x a s hv){B:List De}:EV r (σ.set a.b (bkT r B)) x a {s with B:=B} hv where
 cx:=by rw[Ad h.xb];exact h.cx
 ct:=by rw[Ad h.tb];exact h.ct
 cb:=Ab
 cg:=by
  have:=h.cg;split at this
  ·rename_i e;rw[if_pos e];exact this
  ·rename_i e;rw[if_neg e];exact this.keep fun y o hy ho=>by rw[Ad (fun e=>by rw[e]at ho;exact h.noB.1 ho)];exact hy
 cq:=h.cq.keep fun y o hy ho=>by rw[Ad (fun e=>by rw[e]at ho;exact h.noB.2.1 ho)];exact hy
 co:=h.co.keep fun y o hy ho=>by rw[Ad (fun e=>by rw[e]at ho;exact h.noB.2.2 ho)];exact hy
 xt:=h.xt
 xb:=h.xb
 tb:=h.tb
 gq:=h.gq
theorem Frm.setX{o:Bn}:Frm x a a σ (σ.set x o):=fun y p hy hn=>⟨by rw[Ad (fun e=>hn (.inl e))];exact hy,hn⟩
theorem Frm.setT{o:Bn}:Frm x a a σ (σ.set a.t o):=fun y p hy hn=>⟨by rw[Ad (fun e=>hn (.inr (.inl e)))];exact hy,hn⟩
theorem Frm.setB{o:Bn}:Frm x a a σ (σ.set a.b o):=fun y p hy hn=>⟨by rw[Ad (fun e=>hn (.inr (.inr (.inl e))))];exact hy,hn⟩
theorem Frm.of(h:∀y o,σ y=some o→σ' y=some o):Frm x a a σ σ':=fun y o hy hn=>⟨h y o hy,hn⟩
theorem EV.setQ(h:EV r σ x a s hv){v:AV}{l:List Fa}(h1:LQ 4 σ1 v (faC l))(hs:∀y o,σ y=some o→¬Hc a.qv y→σ1 y=some o∧¬Hc v y):
  σ1 x=some (.cells (evC r s a hv))∧EV r (σ1.set x (.cells (evC r {s with queue:=l} {a with qv:=v} hv))) x {a with qv:=v} {s with queue:=l} hv∧Frm x a {a with qv:=v} σ (σ1.set x (.cells (evC r {s with queue:=l} {a with qv:=v} hv))):=by
 have kx:=hs _ _ h.cx h.noX.2.1;have kt:=hs _ _ h.ct h.noT.2.1;have kb:=hs _ _ h.cb h.noB.2.1;refine⟨kx.1,⟨Ab,by rw[Ad h.xt.symm];exact kt.1,by rw[Ad h.xb.symm];exact kb.1,?_,?_,?_,h.xt,h.xb,h.tb,fun y ho=>?_⟩,fun y o hy hn=>?_⟩
 ·have:=h.cg
  split at this
  ·rename_i e;rw[if_pos e];exact this
  ·rename_i e;rw[if_neg e]
   exact this.keep fun y o hy ho=>by rw[Ad (fun e=>by rw[e]at ho;exact h.noX.1 ho)];exact(hs y o hy (h.gq y ho)).1
 ·exact h1.keep fun y o hy ho=>by rw[Ad (fun e=>by rw[e]at ho;exact kx.2 ho)];exact hy
 ·exact h.co.keep fun y o hy ho=>by rw[Ad (fun e=>by rw[e]at ho;exact h.noX.2.2 ho)];exact(hs y o hy (h.goq ho).2).1
 ·obtain⟨c,hc⟩:=h.grow ho
  exact(hs _ _ hc (h.gq y ho)).2
 ·have hq:¬Hc a.qv y:=fun e=>hn (.inr (.inr (.inr (.inr (.inl e)))))
  have hx:y≠x:=fun e=>hn (.inl e);have k:=hs y o hy hq;refine⟨by rw[Ad hx];exact k.1,fun hf=>?_⟩;rcases hf with e|e|e|e|e|e
  ·exact hx e
  ·exact hn (.inr (.inl e))
  ·exact hn (.inr (.inr (.inl e)))
  ·exact hn (.inr (.inr (.inr (.inl e))))
  ·exact k.2 e
  ·exact hn (.inr (.inr (.inr (.inr (.inr e)))))
theorem EV.setO(h:EV r σ x a s hv){v:AV}{l:List (Fa×Bool)}(h1:LAt 5 σ1 v (ouC l))(hs:∀y o,σ y=some o→¬Own a.ov y→σ1 y=some o∧¬Own v y):
  σ1 x=some (.cells (evC r s a hv))∧EV r (σ1.set x (.cells (evC r {s with outs:=l} {a with ov:=v} hv))) x {a with ov:=v} {s with outs:=l} hv∧Frm x a {a with ov:=v} σ (σ1.set x (.cells (evC r {s with outs:=l} {a with ov:=v} hv))):=by
 have kx:=hs _ _ h.cx h.noX.2.2;have kt:=hs _ _ h.ct h.noT.2.2;have kb:=hs _ _ h.cb h.noB.2.2;refine⟨kx.1,⟨Ab,by rw[Ad h.xt.symm];exact kt.1,by rw[Ad h.xb.symm];exact kb.1,?_,?_,?_,h.xt,h.xb,h.tb,h.gq⟩,fun y o hy hn=>?_⟩
 ·have:=h.cg
  split at this
  ·rename_i e;rw[if_pos e];exact this
  ·rename_i e;rw[if_neg e]
   exact this.keep fun y o hy ho=>by rw[Ad (fun e=>by rw[e]at ho;exact h.noX.1 ho)];exact(hs y o hy (fun e=>(h.goq e).1 ho)).1
 ·exact h.cq.keep fun y o hy ho=>by rw[Ad (fun e=>by rw[e]at ho;exact h.noX.2.1 ho)];exact(hs y o hy (fun e=>(h.goq e).2 ho)).1
 ·exact h1.keep fun y o hy ho=>by rw[Ad (fun e=>by rw[e]at ho;exact kx.2 ho)];exact hy
 ·have hq:¬Own a.ov y:=fun e=>hn (.inr (.inr (.inr (.inr (.inr e)))))
  have hx:y≠x:=fun e=>hn (.inl e);have k:=hs y o hy hq;refine⟨by rw[Ad hx];exact k.1,fun hf=>?_⟩;rcases hf with e|e|e|e|e|e
  ·exact hx e
  ·exact hn (.inr (.inl e))
  ·exact hn (.inr (.inr (.inl e)))
  ·exact hn (.inr (.inr (.inr (.inl e))))
  ·exact hn (.inr (.inr (.inr (.inr (.inl e)))))
  ·exact k.2 e
end
theorem Rs{v:ByteArray}{c:Cn}{k:List Bi}:∀{e:List Bi},N2 e v=some c→N2 (e++k) v=some c
 | [],h=>by cases h
 |x::e,h=>by
  rw[List.cons_append];unfold N2 at h⊢;split
  ·rename_i h1;rw[if_pos h1]at h;exact h
  ·rename_i h1;rw[if_neg h1]at h;exact Rs h
theorem Amy{t:Tm}{c:Cn}{e k:List Bi}(h:Ei t e=some c):Ei t (e++k)=some c:=by
 unfold Ei at h⊢;split
 ·rename_i h1;rw[if_pos h1]at h;cases h
 ·rename_i h1
  rw[if_neg h1]at h;split
  ·rename_i h2;rw[if_pos h2]at h;exact h
  ·rename_i h2;rw[if_neg h2]at h;exact Rs h
theorem Wu:∀{l:List Tm} {env:List Bi} {a:List Cn},Ed l env=some a→a.length=l.length
 | [],env,a,h=>by injection h with h;subst h;rfl
 |t::l,env,a,h=>by
  unfold Ed at h;split at h
  ·obtain⟨b,h1,rfl⟩:=Option.map_eq_some_iff.1 h
   rw[List.length_cons,List.length_cons,Wu h1]
  ·cases h
def Rl.S4(r:Rl):Prop:=r.S3∧r.ar.length≤300
theorem Acv{ho:Tm}{ls:List Li}{xs:List Fa}{e:List Bi}{i:Nat}(h1:i<ls.length)(h2:i<xs.length):N1 ho (ls.drop i) (xs.drop i) e=(Fi ho ls[i] xs[i] e).bind (N1 ho (ls.drop (i+1)) (xs.drop (i+1))):=by
 rw[List.drop_eq_getElem_cons h1,List.drop_eq_getElem_cons h2];rfl
theorem Acu{ho:Tm}{ls:List Li}{xs:List Fa}{e:List Bi}{i:Nat}(h1:i=ls.length)(h2:i=xs.length):N1 ho (ls.drop i) (xs.drop i) e=some e:=by
 rw[List.drop_eq_nil_of_le (by omega),List.drop_eq_nil_of_le (by omega)];rfl
theorem Adz{r:Rl}{env:List Bi}{f:Fa}(hr:r.S4)(h:If r env=some f):f.Sm:=by
 unfold If at h;obtain⟨b,_,h⟩:=Option.bind_eq_some_iff.1 h;obtain⟨a,_,h⟩:=Option.bind_eq_some_iff.1 h;obtain⟨l,hl,rfl⟩:=Option.map_eq_some_iff.1 h;have:=hr.2;show l.length≤1000000000000;rw[Wu hl];omega
def hdE(me:ByteArray)(r:Rl)(body:List Fa):Option Fa:=(B0 r.ho (nmC me) []).bind fun e0=>(N1 r.ho r.bo body e0).bind (If r)
structure SOk(n:Nat)(s:ES):Prop where
 tok:TOk s.T s.lim
 tl:(s.T.length:Int)≤s.lim
 lm:s.lim≤4096
 br:Cp B6 s.B
 bo:s.B.length+s.outs.length≤n
 bs:∀d∈s.B,d.Sm
 ql:s.queue.length≤n
 qs:∀f∈s.queue,f.Sm
 os:∀o∈s.outs,o.1.Sm
 gr:Cp A4 s.given
 gl:s.given.length≤1000000
 gs:∀f∈s.given,f.Sm
 rs:∀r∈s.rules,r.S4
 rl:s.rules.length≤1000000
 nl:s.names.length≤1000000
theorem SOk.bl{n:Nat}{s:ES}(h:SOk n s):s.B.length≤n:=by have:=h.bo;omega
theorem SOk.ol{n:Nat}{s:ES}(h:SOk n s):s.outs.length≤n:=by have:=h.bo;omega
theorem SOk.bok{n:Nat}{s:ES}(h:SOk n s)(hn:n≤900000000000):BOk s.B:=⟨h.br,Nat.le_trans h.bl hn,h.bs⟩
def H6(s:ES)(i:Nat)(body:List Fa):ES:=match hdE s.me (s.rules.getD i ⟨.zero,emp,[],.zero,[]⟩) body with
 |none=>s
 |some f=>if f.at'∈s.names∧okF f=true then
   if(⟨i,f,body⟩:De)∈s.B then s
   else if f.at'=s.me then(if f∈s.T then{s with B:=By B6 ⟨i,f,body⟩ s.B}else{s with B:=By B6 ⟨i,f,body⟩ s.B,queue:=s.queue++[f]})
   else(if 0<(ofF s.B f).length then{s with B:=By B6 ⟨i,f,body⟩ s.B}else{s with B:=By B6 ⟨i,f,body⟩ s.B,outs:=s.outs++[(f,false)]})
  else s
section
variable{σ:St}{x:Nat}{a:EA}{s:ES}{n:Nat}
theorem Iy(h:EV false σ x a s false):AT Tryz.prog 55 [ptr x] σ fun v σ'=>v=boo false∧σ'=σ:=by
 refine AT.ob Tryz.func55 rfl ?_;have hx:=h.cx;have g3:(evC false s a false).getD 3 (.v undef)=ptr a.t:=rfl;have ln:(evC false s a false).length=9:=rfl;simp only[go_sem,hx,g3,ln];exact Ac (r:=boo false) rfl ⟨rfl,rfl⟩
theorem Adp(h:EV false σ x a s false)(hs:SOk n s)(i:Nat)(hi:i<s.rules.length)(body:List Fa)(hb:body.length=s.rules[i].bo.length):AT Tryz.prog 106 [ptr x,int i,.sl 4 (faC body)] σ fun v σ'=>v=N3 (hdE s.me s.rules[i] body)∧σ'=σ:=by
 refine AT.ob Tryz.func106 rfl ?_;have hx:=h.cx;have g2:(evC false s a false).getD 2 (.v undef)= .sl 11 (rlC s.rules):=rfl;have g0:(evC false s a false).getD 0 (.v undef)=str s.me:=rfl;have ln:(evC false s a false).length=9:=rfl;obtain⟨r,hr⟩:∃r,r=s.rules[i]:=⟨_,rfl⟩;have hr4:=hs.rs _ (List.getElem_mem hi);rw[←hr]at hr4 hb⊢;have rg:(rlC s.rules).getD i []=r.cs:=by rw[hr];exact Jz hi
 have hr1:=hr4.1.1;have hr2:=hr4.1.2;have har:=hr4.2;have bl:=Am body;simp only[go_sem];refine Ctx.nil.alloc fun p σ1 c1=>?_;have hx1:=c1.sub _ _ hx;simp only[go_sem,hx1,g2,ln,rg];refine⟨by omega,c1.alloc fun q σ2 c2=>?_⟩;obtain⟨σ3,e3,c3⟩:=c2.abs 0 rfl (.cells r.cs);have hq:=c3.g1.1.1;have hp:=c3.g1.1.2;have hx3:=c3.sub _ _ hx;have hsb:=c3.sub;have fp:=c3.f1;simp only[go_sem,c2.g1,e3];clear e3 c2 c1;refine Ag [.rd 0 false,.rd 1 true,.rd 2 false,.rd 3 false,.rd 4 false,.rd 5 true,.rd 6 false,.ef 7 [],.rd 8 false,.rd 9 false,.rd 10 false,.rd 11 false,.rd 12 false] ?_;simp only[go_sem,hq,hx3,g0,ln];refine(AT.weak (Ji r.ho (nmC s.me) [] (by simp)) (vws_same (vws_same (vws_cons (.nil 4) Cm)))).p ?_;have fail:∀{fr:Fr} {σ3:St},fr 6=ptr p→fr 7=boo false→(∀y o,σ y=some o→σ3 y=some o)→σ3 p=some (.cells [str emp,str emp,str emp,Ax])→hdE s.me r body=none→Fp Tryz.prog (fun v σ'=>v=N3 (hdE s.me r body)∧σ'=σ) (Tryz.f106).results.toList fr σ3:=fun h4 h5 hs hq hn=>
  Gv σ (N3 none) h4 hq tk30 rfl rfl (by rw[h5];exact Se hs _) ⟨by rw[hn],rfl⟩
 have hsp:∀{o:Bn},∀y p',σ y=some p'→(σ3.set p o) y=some p':=fun y p' hy=>by
  rw[Ad (fun e=>by rw[e,fp]at hy;cases hy)];exact hsb y p' hy
 obtain⟨ok0,E0,hE0,hok0⟩:∃(ok0:Bool) (E0:List Bi),K6 (B0 r.ho (nmC s.me) [])= .tup [.sl 4 (biC E0),boo ok0]∧(ok0=true→B0 r.ho (nmC s.me) []=some E0∧E0.length≤1)∧(ok0=false→B0 r.ho (nmC s.me) []=none):=by
  cases hu:B0 r.ho (nmC s.me) []with
  |none=>exact⟨false,[],rfl,fun h=>(by cases h),fun _=>rfl⟩
  |some e=>
   have:=J4 hu;exact⟨true,e,rfl,fun _=>⟨rfl,by simpa using this⟩,fun h=>(by cases h)⟩
 rw[hE0];simp only[go_sem,Aa];refine⟨fun m fr σ'=>∃(j:Nat) (ok:Bool) (e:List Bi),m=body.length-j∧j≤body.length∧(ok=true→e.length≤10+302*j∧(B0 r.ho (nmC s.me) []).bind (N1 r.ho r.bo body)=N1 r.ho (r.bo.drop j) (body.drop j) e)∧(ok=false→(B0 r.ho (nmC s.me) []).bind (N1 r.ho r.bo body)=none)∧σ'=σ3∧fr 2= .sl 4 (faC body)∧fr 6=ptr p∧fr 8=ptr q∧fr 9= .sl 4 (biC e)∧fr 10=boo ok∧fr 11=int j,⟨_,0,ok0,E0,rfl,by omega,fun h=>?_,fun h=>by rw[hok0.2 h];rfl,rfl,rfl,rfl,rfl,rfl,rfl,rfl⟩,?_⟩
 ·obtain⟨h1,h2⟩:=hok0.1 h
  exact⟨by omega,by rw[h1];rfl⟩
 clear hE0 hok0;have hdn:∀{o:Option (List Bi)},(B0 r.ho (nmC s.me) []).bind (N1 r.ho r.bo body)=o→hdE s.me r body=o.bind (If r):=fun{o} h=>by
  unfold hdE;rw[←h];cases B0 r.ho (nmC s.me) []<;>rfl
 rintro m fr σ3 ⟨j,ok,e,rfl,hj,hok1,hok2,rfl,f2,f6,f8,f9,f10,f11⟩;cases ok with
 |false=>
  have hn:=hdn (hok2 rfl);simp only[go_sem,Aa,f10,Bool.not_false,f6,hp];exact fail f6 rfl hsp Ab hn
 |true=>
  obtain⟨hel,hck⟩:=hok1 rfl;by_cases hjl:j<body.length
  ·have d1:=decide_eq_true (show(j:Int)<body.length by omega)
   have hjr:j<r.bo.length:=by omega
   have hla:=hr2 _ (List.getElem_mem hjr);rw[Acv hjr hjl]at hck;simp only[go_sem,Aa,f2,f10,f11,bl,d1];refine Ag [.rd 0 false,.rd 1 true,.rd 2 false,.rd 3 true,.rd 4 false,.rd 5 false,.rd 6 true,.rd 7 false,.rd 8 false,.rd 9 false,.rd 10 true,.rd 11 false,.ef 12 [],.rd 13 false,.rd 14 false,.rd 15 false,.rd 16 false,.rd 17 false] ?_;simp only[go_sem,Aa,f2,f8,f9,f11,hq,Gz hjr,Bc hjl,bl];refine⟨by omega,by omega,(Aea r.ho r.bo[j] body[j] e (by omega) (by omega)).p ?_⟩;have nx:=A2 j (by omega);cases hl:Fi r.ho r.bo[j] body[j] e with
   |none=>
    rw[hl]at hck;have hck:(B0 r.ho (nmC s.me) []).bind (N1 r.ho r.bo body)=none:=hck;simp only[go_sem,Aa,Option.isSome_none,f2,f6,f8,f11,nx];refine⟨body.length-(j+1),by omega,j+1,false,[],rfl,by omega,(fun h=>by cases h),fun _=>hck,?_⟩
    (and_intros<;>first|assumption|rfl|omega)
   |some e2=>
    rw[hl]at hck;have hck:(B0 r.ho (nmC s.me) []).bind (N1 r.ho r.bo body)=N1 r.ho (r.bo.drop (j+1)) (body.drop (j+1)) e2:=hck;have:=Zz hl;simp only[go_sem,Aa,Option.isSome_some,f2,f6,f8,f11,nx];refine⟨body.length-(j+1),by omega,j+1,true,e2,rfl,by omega,fun _=>⟨by omega,hck⟩,(fun h=>by cases h),?_⟩
    (and_intros<;>first|assumption|rfl|omega)
  ·have d1:=decide_eq_false (show¬(j:Int)<body.length by omega)
   rw[Acu (by omega) (by omega)]at hck;have hn:=hdn hck;simp only[go_sem,Aa,f2,f10,f11,bl,d1,Bool.not_true,f8,f9,hq];refine(Ahq r e (by omega) (by omega)).p ?_;simp only[go_sem,f6,hp];exact Gv σ (N3 (If r e)) f6 Ab tk30 rfl rfl (Ao hsp) ⟨by rw[hn];rfl,rfl⟩
end
section
variable{σ:St}
theorem Aa9(l:List ByteArray)(hl:l.length≤1000000000):AT Tryz.prog 50 [.sl 1 (stC l)] σ fun r σ'=>Ow 1 σ' r (stC l)∧Cz σ σ' r:=by
 refine AT.ob Tryz.func50 rfl ?_;simp only[go_sem];by_cases he:stC l=[]
 ·refine⟨fun h=>absurd he h,fun _ b=>?_⟩
  refine aIf_bool (fun _=>?_) (fun _=>?_)
  ·simp only[go_sem]
   exact Ac (r:=Ax) rfl ⟨.inl ⟨he,.inl rfl⟩,.nil⟩
  ·simp only[go_sem]
   refine As (ys:=stC l) (by simp[src]) (by decide) (by decide) (by decide) ?_;rw[he];refine⟨rfl,fun _=>?_,fun h=>absurd rfl h⟩;simp only[go_sem];exact Ac (r:=.fsl 1 []) rfl ⟨.inl ⟨rfl,.inr rfl⟩,fun y p hy=>⟨hy,A3⟩⟩
 ·refine⟨fun _=>?_,fun h=>absurd h he⟩
  refine As (ys:=stC l) (by simp[src]) (by decide) (by decide) (by decide) (Ow.of_app .full he (by rw[T7];simp only[List.length_nil];omega) fun lv σ1 h1 h2 _=>?_);simp only[go_sem];exact Ac (r:=lv) rfl ⟨h1,fun y p hy=>h2 y p hy A3⟩
theorem W9(l:List ByteArray)(hl:l.length≤1000000000):AT Tryz.prog 50 [.sl 1 (stC l)] σ fun r σ'=>r= .sl 1 (stC l)∧σ'=σ:=
 (Aa9 l hl).post (by kernel_rfl) fun r σ' ⟨h,G⟩=>⟨_,_,H9 h.lat G,rfl,rfl⟩
theorem Aba(l:List Tm)(hl:l.length≤1000000000):AT Tryz.prog 97 [.sl 4 (tmC l)] σ fun r σ'=>Ow 4 σ' r (tmC l)∧Cz σ σ' r:=by
 refine AT.ob Tryz.func97 rfl ?_;simp only[go_sem];by_cases he:tmC l=[]
 ·refine⟨fun h=>absurd he h,fun _ b=>?_⟩
  refine aIf_bool (fun _=>?_) (fun _=>?_)
  ·simp only[go_sem]
   exact Ac (r:=Ax) rfl ⟨.inl ⟨he,.inl rfl⟩,.nil⟩
  ·simp only[go_sem]
   refine As (ys:=tmC l) (by simp[src]) (by decide) (by decide) (by decide) ?_;rw[he];refine⟨rfl,fun _=>?_,fun h=>absurd rfl h⟩;simp only[go_sem];exact Ac (r:=.fsl 4 []) rfl ⟨.inl ⟨rfl,.inr rfl⟩,fun y p hy=>⟨hy,A3⟩⟩
 ·refine⟨fun _=>?_,fun h=>absurd h he⟩
  refine As (ys:=tmC l) (by simp[src]) (by decide) (by decide) (by decide) (Ow.of_app .full he (by rw[Mj];simp only[List.length_nil];omega) fun lv σ1 h1 h2 _=>?_);simp only[go_sem];exact Ac (r:=lv) rfl ⟨h1,fun y p hy=>h2 y p hy A3⟩
theorem O6(l:List Tm)(hl:l.length≤1000000000):AT Tryz.prog 97 [.sl 4 (tmC l)] σ fun r σ'=>r= .sl 4 (tmC l)∧σ'=σ:=
 (Aba l hl).post (by kernel_rfl) fun r σ' ⟨h,G⟩=>⟨_,_,H9 h.lat G,rfl,rfl⟩
theorem Aa8(l:List Li)(hl:l.length≤1000000000):AT Tryz.prog 98 [.sl 10 (liC l)] σ fun r σ'=>Ow 10 σ' r (liC l)∧Cz σ σ' r:=by
 refine AT.ob Tryz.func98 rfl ?_;simp only[go_sem];by_cases he:liC l=[]
 ·refine⟨fun h=>absurd he h,fun _ b=>?_⟩
  refine aIf_bool (fun _=>?_) (fun _=>?_)
  ·simp only[go_sem]
   exact Ac (r:=Ax) rfl ⟨.inl ⟨he,.inl rfl⟩,.nil⟩
  ·simp only[go_sem]
   refine As (ys:=liC l) (by simp[src]) (by decide) (by decide) (by decide) ?_;rw[he];refine⟨rfl,fun _=>?_,fun h=>absurd rfl h⟩;simp only[go_sem];exact Ac (r:=.fsl 10 []) rfl ⟨.inl ⟨rfl,.inr rfl⟩,fun y p hy=>⟨hy,A3⟩⟩
 ·refine⟨fun _=>?_,fun h=>absurd h he⟩
  refine As (ys:=liC l) (by simp[src]) (by decide) (by decide) (by decide) (Ow.of_app .full he (by rw[Jv];simp only[List.length_nil];omega) fun lv σ1 h1 h2 _=>?_);simp only[go_sem];exact Ac (r:=lv) rfl ⟨h1,fun y p hy=>h2 y p hy A3⟩
end
def Rl.csv(r:Rl)(v:AV):List AV:=[str r.ho.v,boo r.ho.b,int r.ho.n,str r.ho.s,str r.nm,.sl 4 (tmC r.ar),str r.at'.v,boo r.at'.b,int r.at'.n,str r.at'.s,v]
theorem Rl.csv_one(r:Rl){v:AV}(h:v.one=true):(r.csv v).all AV.one=true:=by
 show(true&&(true&&(true&&(true&&(true&&(true&&(true&&(true&&(true&&(true&&(v.one&&true)))))))))))=true;rw[h];rfl
@[go_sem] theorem Rl.csv_len(r:Rl)(v:AV):(r.csv v).length=11:=rfl
@[go_sem] theorem Rl.csv_take(r:Rl)(v:AV):(r.csv v).take 11=r.csv v:=rfl
@[go_sem] theorem Rl.csv_10(r:Rl)(v:AV):(r.csv v).getD 10 (.v undef)=v:=rfl
theorem T6{l:List Li}{i:Nat}(h:i<l.length):(liC l).set i (Au ((liC l).getD i []) 5 [.sl 4 (tmC l[i].ar)])=liC l:=by
 rw[Gz h];refine List.ext_getElem (by simp) fun j h1 h2=>?_;rw[List.getElem_set];split
 ·rename_i e
  subst e;simp only[liC,List.getElem_map];rfl
 ·rfl
def RrX(σ0 σ:St)(r:Rl)(e:List AV):Prop:=∃a,e=r.csv a∧Rd 10 σ a (liC r.bo)∧∀x,Own a x→σ0 x=none
theorem Rd.vw'{q:Nat}{σ0 σ:St}{a:AV}{es:List (List AV)}(h:Rd q σ a es)(hf:∀x,Own a x→σ0 x=none):VW σ σ0 a (.sl q es):=by
 rcases h with rfl|h
 ·exact .refl _
 ·exact h.vw_same hf
theorem RrX.vws{σ0 σ:St}{r:Rl}{e:List AV}(h:RrX σ0 σ r e):VWs σ σ0 e r.cs:=by
 obtain⟨a,rfl,h1,h2⟩:=h;exact vws_same (vws_same (vws_same (vws_same (vws_same (vws_same (vws_same (vws_same (vws_same (vws_same (vws_cons (h1.vw' h2) Cm))))))))))
structure CR(σ0 σ:St)(lv:AV)(es:List (List AV))(b:List Rl):Prop where
 sub:∀x o,σ0 x=some o→σ x=some o
 la:LAt 11 σ lv es
 own:∀x,Own lv x→σ0 x=none
 len:es.length=b.length
 el:∀j (h:j<b.length),RrX σ0 σ b[j] (es.getD j [])
theorem CR.view{σ0 σ:St}{lv:AV}{es:List (List AV)}{b:List Rl}(h:CR σ0 σ lv es b):Ey σ lv σ0 (.sl 11 (rlC b)):=view_of (Jg fun x o hx=>.inl (h.sub x o hx)) (h.la.vw h.own (by rw[G0,h.len]) fun i hi=>by
 have:=h.len;rw[Jz (by omega)];exact(h.el i (by omega)).vws)
theorem CR.app{σ0 σ1 σ7 σ8:St}{lv lv' v:AV}{es:List (List AV)}{b:List Rl}{r:Rl}(h:CR σ0 σ1 lv es b)(hs:∀y o,σ1 y=some o→σ7 y=some o)(hv:LAt 10 σ7 v (liC r.bo))(hn:∀y,Own v y→σ0 y=none)(h8:LAt 11 σ8 lv' (es++[r.csv v]))(hs8:∀y o,σ7 y=some o→¬Own lv y→σ8 y=some o∧¬Own lv' y):CR σ0 σ8 lv' (es++[r.csv v]) (b++[r]):=by
 have nol:∀y o,σ0 y=some o→¬Own lv y:=fun y o hy ho=>by have:=h.own y ho;rw[hy]at this;cases this
 have n3:∀{y es' cap},σ7 y=some (.rows 10 es' false cap)→¬Own lv y:=fun{y es' cap} hy ho=>by
  obtain⟨c,hc⟩:=h.la.own_rows ho;rw[hs _ _ hc]at hy;cases hy
 refine⟨fun y o hy=>(hs8 y o (hs y o (h.sub y o hy)) (nol y o hy)).1,h8,fun y ho=>?_,by simp[h.len],fun j hj=>?_⟩
 ·cases hy:σ0 y with
  |none=>rfl
  |some o=>exact absurd ho (hs8 y o (hs y o (h.sub y o hy)) (nol y o hy)).2
 ·have hl:=h.len
  by_cases e:j<b.length
  ·obtain⟨a,a1,a2,a3⟩:=h.el j e
   refine⟨a,?_,?_,a3⟩
   ·rw[List.getD_eq_getElem?_getD,List.getElem?_append_left (by omega),←List.getD_eq_getElem?_getD,a1,List.getElem_append_left e]
   ·rw[List.getElem_append_left e]
    have a4:Rd 10 σ7 a (liC b[j].bo):=a2.keep hs;rcases a4 with a4|a4
    ·exact .inl a4
    ·exact .inr (a4.keep fun y o hy ho=>by
      obtain⟨c,hc⟩:=a4.own_rows ho;exact(hs8 y o hy (n3 hc)).1)
  ·have ej:j=b.length:=by simp at hj;omega
   subst ej;refine⟨v,?_,?_,hn⟩
   ·rw[List.getD_eq_getElem?_getD,List.getElem?_append_right (by omega),hl];simp
   ·rw[List.getElem_append_right (Nat.le_refl _)]
    simp only[Nat.sub_self,List.getElem_cons_zero]
    exact .inr (hv.keep fun y o hy ho=>by
     obtain⟨c,hc⟩:=hv.own_rows ho;exact(hs8 y o hy (n3 hc)).1)
section
variable{σ:St}
theorem Agz(l:List Rl)(hl:l.length≤1000000)(hr:∀r∈l,r.S4):AT Tryz.prog 51 [.sl 11 (rlC l)] σ fun r σ'=>r= .sl 11 (rlC l)∧σ'=σ:=by
 have hm:AT Tryz.prog 51 [.sl 11 (rlC l)] σ fun v σ'=>∃es,CR σ σ' v es l:=by
  refine AT.ob Tryz.func51 rfl ?_;simp only[go_sem,G0];refine⟨fun m fr σ'=>∃(i:Nat) (lv:AV) (es:List (List AV)),m=l.length-i∧i≤l.length∧CR σ σ' lv es (l.take i)∧fr 3=lv∧fr 7= .sl 11 (rlC l)∧fr 8=int l.length∧fr 9=int i,⟨_,0,Ax,[],rfl,by omega,⟨fun _ _ h=>h,.none,fun y hy=>absurd hy Bu,rfl,fun j hj=>by simp at hj⟩,rfl,rfl,rfl,rfl⟩,?_⟩;rintro m fr σ1 ⟨i,lv,es,rfl,hi,hC,f3,f7,f8,f9⟩;simp only[go_sem,f8,f9];refine aIf_by (fun hlt=>?_) (fun hlt=>?_)
  case' refine_2=>
   rw[List.take_of_length_le (by omega)]at hC;simp only[go_sem,Aa,f3];exact Ac (r:=lv) rfl ⟨es,hC⟩
  have hil:i<l.length:=by omega
  obtain⟨r,hrr⟩:∃r,r=l[i]:=⟨_,rfl⟩;have hr4:=hr _ (List.getElem_mem hil);rw[←hrr]at hr4;have rg:(rlC l).getD i []=r.cs:=by rw[hrr];exact Jz hil
  have h1:=hr4.1.1;have h2:=hr4.1.2;have h3:=hr4.2;simp only[go_sem,Aa,f7,f9,rg,G0];refine⟨by omega,Ctx.nil.alloc fun p σ2 c2=>?_⟩;obtain⟨σ3,e3,c3⟩:=c2.abs 0 rfl (.cells r.cs);have hp:σ3 p=some (.cells r.cs):=c3.g0;have hs3:=c3.sub;have fp:=c2.f0;simp only[go_sem,Aa,c2.g0,e3,hp];clear e3 c3 c2;refine(O6 r.ar (by omega)).p ?_;have e1:Au r.cs 5 [.sl 4 (tmC r.ar)]=r.cs:=rfl;have e2:σ3.set p (.cells r.cs)=σ3:=Bv hp;simp only[go_sem,Aa,hp,e1,e2];refine(Aa8 r.bo (by omega)).mono ?_;rintro v σ4 ⟨hO,hG⟩;have hp4:=hG _ _ hp;have e4:Au r.cs 10 [v]=r.csv v:=rfl;obtain⟨σ5,e5⟩:∃σ5,σ5=σ4.set p (.cells (r.csv v)):=⟨_,rfl⟩;have hp5:σ5 p=some (.cells (r.csv v)):=by rw[e5];exact Ab
  have hO5:Ow 10 σ5 v (liC r.bo):=hO.keep fun y o hy ho=>by rw[e5,Ad (fun e=>by rw[e]at ho;exact hp4.2 ho)];exact hy
  have hs5:∀y o,σ1 y=some o→σ5 y=some o:=fun y o hy=>by
   rw[e5,Ad (fun e=>by rw[e,fp]at hy;cases hy)];exact(hG _ _ (hs3 _ _ hy)).1
  have hn5:∀y,Own v y→σ y=none:=fun y ho=>Cj (fun z o hz=>hs3 _ _ (hC.sub z o hz)) (hG.own ho);have o5:=r.csv_one hO.lat.one;simp only[go_sem,Aa,hp4.1,hO.lat.one,hO.lat.cells,e4,←e5,hp5,hO5.lat.len,Jv,o5];clear e5;refine⟨fun m fr σ'=>∃j:Nat,m=r.bo.length-j∧j≤r.bo.length∧σ'=σ5∧fr 3=lv∧fr 5=ptr p∧fr 7= .sl 11 (rlC l)∧fr 8=int l.length∧fr 9=int i∧fr 23=int r.bo.length∧fr 24=int j,⟨_,0,rfl,by omega,rfl,f3,rfl,f7,f8,f9,rfl,rfl⟩,?_⟩;clear f3 f7 f8 f9;rintro m fr σ5 ⟨j,rfl,hj,rfl,f3,f5,f7,f8,f9,f23,f24⟩;simp only[go_sem,f23,f24];refine aIf_by (fun hlt=>?_) (fun hlt=>?_)
  ·have hjl:j<r.bo.length:=by omega
   rcases hO5 with⟨h0,_⟩|⟨b,cap,rfl,hcap,hb⟩
   ·have:=congrArg List.length h0
    rw[Jv,List.length_nil]at this;omega
   have e5:=T6 hjl;have e6:σ5.set b (.rows 10 (liC r.bo) false cap)=σ5:=Bv hb;have sx:=h2 _ (List.getElem_mem hjl);have fl:=Jv r.bo;rw[fl]at hcap;simp only[go_sem,Aa,f5,f24];refine Ag [.rd 0 false,.rd 1 true,.rd 2 false,.rd 3 false,.rd 4 true,.rd 5 false,.rd 6 false,.rd 7 false,.rd 8 true,.ef 9 [1],.rd 10 false,.rd 11 false,.ef 12 []] ?_;simp only[go_sem,Aa,f5,f24,hp5,hb,Gz hjl,fl];refine⟨by omega,by omega,(O6 r.bo[j].ar (by omega)).p ?_⟩;simp only[go_sem,Aa,f3,f5,f23,f24,hp5,hb,fl,e5,e6,A2 j (by omega)];refine⟨by omega,by omega,r.bo.length-(j+1),by omega,j+1,?_⟩
   (and_intros<;>first|assumption|rfl|omega)
  ·simp only[go_sem,Aa,f3,f5,hp5,o5]
   have hcl:=hC.len;rw[List.length_take]at hcl;refine As (ys:=[r.csv v]) rfl (by decide) (by decide) (by decide) ((hC.la.keep fun y o hy _=>hs5 y o hy).app (by simp only[List.length_cons,List.length_nil];omega) fun lv' σ8 h8 s8=>?_);have hC8:=hC.app hs5 hO5.lat hn5 h8 s8;rw[show l.take i++[r]=l.take (i+1) by rw[List.take_add_one,List.getElem?_eq_getElem hil,hrr];rfl]at hC8;simp only[go_sem,Aa,f9,A2 i (by omega)];exact⟨l.length-(i+1),by omega,i+1,lv',_,rfl,by omega,hC8,rfl,f7,f8,rfl⟩
 exact hm.post (by kernel_rfl) fun r σ' ⟨es,h⟩=>⟨_,_,h.view,rfl,rfl⟩
end
section
variable{σ:St}{x:Nat}{a:EA}{s:ES}{n:Nat}
@[go_sem] theorem Anc(s:ES)(a:EA):(evC false s a false).length=9:=rfl
@[go_sem] theorem Ara(s:ES)(a:EA):(evC false s a false).getD 0 (.v undef)=str s.me:=rfl
@[go_sem] theorem Arb(s:ES)(a:EA):(evC false s a false).getD 1 (.v undef)= .sl 1 (stC s.names):=rfl
@[go_sem] theorem Arc(s:ES)(a:EA):(evC false s a false).getD 2 (.v undef)= .sl 11 (rlC s.rules):=rfl
@[go_sem] theorem Ard(s:ES)(a:EA):(evC false s a false).getD 3 (.v undef)=ptr a.t:=rfl
@[go_sem] theorem Are(s:ES)(a:EA):(evC false s a false).getD 4 (.v undef)=ptr a.b:=rfl
@[go_sem] theorem Arf(s:ES)(a:EA):(evC false s a false).getD 5 (.v undef)=a.gv:=rfl
@[go_sem] theorem Arh(s:ES)(a:EA):(evC false s a false).getD 6 (.v undef)=a.qv:=rfl
@[go_sem] theorem Ari(s:ES)(a:EA):(evC false s a false).getD 7 (.v undef)=a.ov:=rfl
@[go_sem] theorem Arj(s:ES)(a:EA):(evC false s a false).getD 8 (.v undef)=boo s.full:=rfl
theorem Of{l:List Rl}{i:Nat}(h:i<l.length)(d:Rl):l.getD i d=l[i]:=by simp[List.getD_eq_getElem?_getD,h]
theorem Vr(h:EV false σ x a s false)(hs:SOk n s)(hn:n≤800000000000)(i:Nat)(hi:i<s.rules.length)(body:List Fa)(hb:body.length=s.rules[i].bo.length)(hbs:∀y∈body,y.Sm):
  AT Tryz.prog 54 [ptr x,int i,.sl 4 (faC body)] σ fun _ σ'=>∃a',EV false σ' x a' (H6 s i body) false∧Frm x a a' σ σ':=by
 refine AT.ob Tryz.func54 rfl ?_;have hf0:H6 s i body=match hdE s.me s.rules[i] body with
   |none=>s
   |some f=>if f.at'∈s.names∧okF f=true then
     if(⟨i,f,body⟩:De)∈s.B then s
     else if f.at'=s.me then(if f∈s.T then{s with B:=By B6 ⟨i,f,body⟩ s.B}else{s with B:=By B6 ⟨i,f,body⟩ s.B,queue:=s.queue++[f]})
     else(if 0<(ofF s.B f).length then{s with B:=By B6 ⟨i,f,body⟩ s.B}else{s with B:=By B6 ⟨i,f,body⟩ s.B,outs:=s.outs++[(f,false)]})
    else s:=by unfold H6;rw[Of hi];first|done|rfl
 have hr4:=hs.rs _ (List.getElem_mem hi);have hbl2:=hr4.1.1;have hnl:=hs.nl;simp only[go_sem];refine(Adp h hs i hi body hb).p ?_;simp only[go_sem];refine Ctx.nil.alloc fun p σ1 c1=>?_;obtain⟨σ2,e2,c2⟩:=c1.abs 0 rfl (.cells ((hdE s.me s.rules[i] body).getD .nil).cs);have hp:=c2.g0;have hsb:=c2.sub;have fp:=c1.f0;simp only at hp;simp only[go_sem,c1.g0,e2];clear e2 c2 c1;have stay:H6 s i body=s→∀{fr:Fr} {σ':St},(∀y o,σ y=some o→σ' y=some o)→Bj Tryz.prog fr σ' (Tryz.f54).results.toList=some (.tup [])→Fp Tryz.prog (fun _ σ'=>∃a',EV false σ' x a' (H6 s i body) false∧Frm x a a' σ σ') (Tryz.f54).results.toList fr σ':=fun e _ _ h2 hr=>
  Ac hr ⟨a,by rw[e];exact h.more h2,.of h2⟩
 refine Ag [.rd 0 false,.rd 1 false,.rd 2 false,.rd 3 false,.rd 4 false,.rd 5 false,.rd 6 true,.rd 7 false,.rd 8 true,.ef 9 [],.rd 10 false,.rd 11 false,.rd 12 false,.rd 13 true,.ef 14 [],.rd 15 false,.rd 16 false] ?_;cases hh:hdE s.me s.rules[i] body with
 |none=>
  rw[hh]at hf0;simp only[go_sem,Option.isSome_none,Bool.not_false];exact stay hf0 hsb rfl
 |some f=>
 rw[hh]at hf0 hp;simp only[Option.getD_some]at hf0 hp;have hfs:f.Sm:=by
  unfold hdE at hh;obtain⟨_,_,hh⟩:=Option.bind_eq_some_iff.1 hh;obtain⟨_,_,hh⟩:=Option.bind_eq_some_iff.1 hh;exact Adz hr4 hh
 have h2:=h.more hsb;have hx2:=h2.cx;simp only[go_sem,Option.isSome_some,Bool.not_true,hx2,hp];refine(Xp (l:=s.names) (s:=f.at') (by omega) .sl).p ?_;by_cases hnm:f.at'∈s.names
 case neg=>
  rw[if_neg fun h=>hnm h.1]at hf0;simp only[go_sem,decide_eq_false hnm,Bool.not_false];exact stay hf0 hsb rfl
 simp only[go_sem,decide_eq_true hnm,Bool.not_true,hp];refine(O5 f).p ?_;cases hok:okF f with
 |false=>
  have e1:okE f=40:=by unfold okE;rw[hok];rfl
  have d2:(!decide (okE f=0))=true:=by rw[e1];rfl
  rw[if_neg fun h=>by rw[hok]at h;cases h.2]at hf0;simp only[go_sem,d2];exact stay hf0 hsb rfl
 |true=>
 have e1:okE f=0:=by unfold okE;rw[hok];rfl
 have d2:(!decide (okE f=0))=false:=by rw[e1];rfl
 rw[if_pos ⟨hnm,hok⟩]at hf0;simp only[go_sem,d2];refine Ag [.rd 0 false,.rd 1 false,.rd 2 false,.rd 3 true,.rd 4 true,.ef 5 [],.rd 6 false,.rd 7 false,.rd 8 false] ?_;simp only[go_sem,hx2,hp];have hbk:=hs.bok (by omega);refine(Aer (show BK σ2 a.b s.B from h2.cb) hbk f hfs).p ?_;obtain⟨d,hd⟩:∃d:De,d=⟨i,f,body⟩:=⟨_,rfl⟩;have hds:d.Sm:=by rw[hd];exact⟨hfs,by show body.length≤1000000000000;omega,hbs⟩
 rw[←hd]at hf0;simp only[go_sem,Bt];refine Ag [.rd 0 false,.rd 1 false,.rd 2 false,.rd 3 true,.rd 4 false,.rd 5 true,.rd 6 false,.rd 7 false,.ef 8 [],.rd 9 false] ?_;simp only[go_sem,hx2,hp];refine⟨Nat.le_refl 5,?_⟩;show AT Tryz.prog 107 [ptr a.b,.agg (De.mk i f body).cs] _ _;rw[←hd];refine(Aft (show BK σ2 a.b s.B from h2.cb) hbk d hds).mono ?_;rintro _ σ3 ⟨rfl,rfl⟩;by_cases hm:d∈s.B
 ·rw[if_pos hm]at hf0
  have e:σ2.set a.b (bkC (By B6 d s.B))=σ2:=by
   rw[Ng Bw (Fv Bw hbk.rises) hbk.rises fun y=>by rw[Fq Bw];exact⟨fun h=>h.elim (fun e=>e▸hm) _root_.id,.inr⟩];exact Bv h2.cb
  rw[e];simp only[go_sem,decide_eq_true hm,Bool.not_true,Bool.not_false];exact stay hf0 hsb rfl
 rw[if_neg hm]at hf0;have hpb:p≠a.b:=fun e=>by rw[e,h.cb]at fp;cases fp
 have h3:=h2.setB (B:=By B6 d s.B);have hp3:(σ2.set a.b (bkT false (By B6 d s.B))) p=some (.cells f.cs):=by rw[Ad hpb];exact hp
 have F3:Frm x a a σ (σ2.set a.b (bkT false (By B6 d s.B))):=(Frm.of hsb).trans .setB;rw[show bkC (By B6 d s.B)=bkT false (By B6 d s.B)from rfl];obtain⟨s1,hs1⟩:∃s1:ES,s1={s with B:=By B6 d s.B}:=⟨_,rfl⟩;rw[←hs1]at h3;have m1:s1.me=s.me:=by rw[hs1]
 have q1:s1.queue=s.queue:=by rw[hs1]
 have o1:s1.outs=s.outs:=by rw[hs1]
 generalize σ2.set a.b (bkT false (By B6 d s.B))=σ3 at h3 hp3 F3;have hx3:=h3.cx;have done:H6 s i body=s1→∀{fr:Fr},Bj Tryz.prog fr σ3 (Tryz.f54).results.toList=some (.tup [])→Fp Tryz.prog (fun _ σ'=>∃a',EV false σ' x a' (H6 s i body) false∧Frm x a a' σ σ') (Tryz.f54).results.toList fr σ3:=fun e _ hr=>
  Ac hr ⟨a,by rw[e];exact h3,F3⟩
 simp only[go_sem,Aa,decide_eq_false hm,Bool.not_false,Bool.not_true];refine Ag [.rd 0 false,.rd 1 true,.rd 2 false,.rd 3 false,.rd 4 false,.rd 5 true,.rd 6 false,.rd 7 false,.rd 8 false,.rd 9 false,.rd 10 false,.rd 11 false] ?_;by_cases hat:f.at'=s.me
 ·rw[if_pos hat]at hf0
  have d4:(!decide (f.at'=s.me))=false:=by rw[decide_eq_true hat];rfl
  simp only[go_sem,Aa,hx3,hp3,m1,d4];refine Ag [.rd 0 false,.rd 1 true,.rd 2 false,.rd 3 false,.rd 4 false,.rd 5 true,.rd 6 false,.rd 7 false,.rd 8 false,.rd 9 false,.rd 10 false,.rd 11 true,.rd 12 true,.ef 13 [],.rd 14 false,.rd 15 false,.rd 16 false] ?_;simp only[go_sem,Aa,hx3,hp3,m1,decide_eq_true hat];have ht3:TB σ3 a.t s1.T s1.lim:=h3.ct;have htok:TOk s1.T s1.lim:=by rw[hs1];exact hs.tok
  refine(Oi ht3 htok f hfs).p ?_;have T1:s1.T=s.T:=by rw[hs1]
  rw[T1];by_cases hin:f∈s.T
  ·rw[if_pos hin]at hf0
   simp only[go_sem,Aa,decide_eq_true hin,Bool.not_true];exact done (by rw[hf0,hs1]) rfl
  ·rw[if_neg hin]at hf0
   simp only[go_sem,Aa,decide_eq_false hin,Bool.not_false];refine Ag [.rd 0 false,.rd 1 false,.rd 2 false,.rd 3 false,.rd 4 true,.rd 5 true,.rd 6 false,.ef 7 [],.rd 8 false,.rd 9 false,.ef 10 []] ?_;simp only[go_sem,Aa,hx3,hp3];have hql:=hs.ql;refine As (ys:=[f.cs]) rfl (by decide) (by decide) (by decide) (h3.cq.app (by decide) (by simp) (by rw[Am,q1];simp only[List.length_cons,List.length_nil];omega) fun v' σ4 k1 k2=>?_);rw[show faC s1.queue++[f.cs]=faC (s1.queue++[f]) by simp[faC]]at k1;obtain⟨kx,kE,kF⟩:=h3.setQ k1 k2;have esp:Au (evC false s1 a false) 6 [v']=evC false {s1 with queue:=s1.queue++[f]} {a with qv:=v'} false:=rfl;simp only[go_sem,Aa,kx,k1.one,k1.cells,esp,kE.all1];refine Ac (r:=.tup []) rfl ⟨_,?_,F3.trans kF⟩;rw[hf0];rw[hs1]at kE⊢;exact kE
 ·rw[if_neg hat]at hf0
  have d4:(!decide (f.at'=s.me))=true:=by rw[decide_eq_false hat];rfl
  by_cases hwas:0<(ofF s.B f).length
  ·rw[if_pos hwas]at hf0
   have d5:=decide_eq_true (show(0:Int)<(ofF s.B f).length by omega);simp only[go_sem,Aa,hx3,hp3,m1,d4,d5,Bool.not_true];refine Ag [.rd 0 false,.rd 1 true,.rd 2 false,.rd 3 false,.rd 4 false,.rd 5 true,.rd 6 false,.rd 7 false,.rd 8 false,.rd 9 false,.rd 10 false,.rd 11 true,.rd 12 true,.ef 13 [],.rd 14 false,.rd 15 false,.rd 16 false] ?_;simp only[go_sem,Aa,hx3,hp3,m1,decide_eq_false hat];exact done (by rw[hf0,hs1]) rfl
  ·rw[if_neg hwas]at hf0
   have d5:=decide_eq_false (show¬(0:Int)<(ofF s.B f).length by omega);simp only[go_sem,Aa,hx3,hp3,m1,d4,d5,Bool.not_false];refine Ag [.rd 0 false,.rd 1 false,.rd 2 false,.rd 3 false,.rd 4 true,.rd 5 true,.rd 6 false,.rd 7 false,.ef 8 [],.rd 9 false,.rd 10 false,.ef 11 []] ?_;simp only[go_sem,Aa,hx3,hp3];have hol:=hs.ol;refine⟨rfl,rfl,?_⟩;refine As (ys:=[f.cs++[boo false]]) rfl (by decide) (by decide) (by decide) (h3.co.app (by rw[Z8,o1];simp only[List.length_cons,List.length_nil];omega) fun v' σ4 k1 k2=>?_);rw[show ouC s1.outs++[f.cs++[boo false]]=ouC (s1.outs++[(f,false)]) by simp[ouC]]at k1;obtain⟨kx,kE,kF⟩:=h3.setO k1 k2;have esp:Au (evC false s1 a false) 7 [v']=evC false {s1 with outs:=s1.outs++[(f,false)]} {a with ov:=v'} false:=rfl;simp only[go_sem,Aa,kx,k1.one,k1.cells,esp,kE.all1];refine Ac (r:=.tup []) rfl ⟨_,?_,F3.trans kF⟩;rw[hf0];rw[hs1]at kE⊢;exact kE
end
structure SK(s s':ES):Prop where
 me:s'.me=s.me
 names:s'.names=s.names
 rules:s'.rules=s.rules
 T:s'.T=s.T
 lim:s'.lim=s.lim
 given:s'.given=s.given
 full:s'.full=s.full
theorem SK.refl(s:ES):SK s s:=⟨rfl,rfl,rfl,rfl,rfl,rfl,rfl⟩
theorem SK.trans{s s' s'':ES}(h:SK s s')(k:SK s' s''):SK s s'':=⟨k.me.trans h.me,k.names.trans h.names,k.rules.trans h.rules,k.T.trans h.T,k.lim.trans h.lim,k.given.trans h.given,k.full.trans h.full⟩
theorem Rk(s:ES)(i:Nat)(b:List Fa):H6 s i b=s∨∃f q o,hdE s.me (s.rules.getD i ⟨.zero,emp,[],.zero,[]⟩) b=some f∧(⟨i,f,b⟩:De)∉s.B∧okF f=true∧H6 s i b={s with B:=By B6 ⟨i,f,b⟩ s.B,queue:=s.queue++q,outs:=s.outs++o}∧(q=[]∨q=[f])∧(o=[]∨o=[(f,false)]):=by
 unfold H6;cases hh:hdE s.me (s.rules.getD i ⟨.zero,emp,[],.zero,[]⟩) b with
 |none=>exact .inl rfl
 |some f=>
  simp only;by_cases h1:f.at'∈s.names∧okF f=true
  ·rw[if_pos h1]
   by_cases h2:(⟨i,f,b⟩:De)∈s.B
   ·rw[if_pos h2];exact .inl rfl
   ·rw[if_neg h2]
    refine .inr ?_;by_cases h3:f.at'=s.me
    ·rw[if_pos h3]
     by_cases h4:f∈s.T
     ·rw[if_pos h4];exact⟨f,[],[],rfl,h2,h1.2,by simp,.inl rfl,.inl rfl⟩
     ·rw[if_neg h4];exact⟨f,[f],[],rfl,h2,h1.2,by simp,.inr rfl,.inl rfl⟩
    ·rw[if_neg h3]
     by_cases h4:0<(ofF s.B f).length
     ·rw[if_pos h4];exact⟨f,[],[],rfl,h2,h1.2,by simp,.inl rfl,.inl rfl⟩
     ·rw[if_neg h4];exact⟨f,[],[(f,false)],rfl,h2,h1.2,by simp,.inl rfl,.inr rfl⟩
  ·rw[if_neg h1];exact .inl rfl
theorem Adw(s:ES)(i:Nat)(b:List Fa):SK s (H6 s i b):=by
 rcases Rk s i b with h|⟨f,q,o,_,_,_,h,_,_⟩
 ·rw[h];exact .refl s
 ·rw[h];exact⟨rfl,rfl,rfl,rfl,rfl,rfl,rfl⟩
theorem SOk.le{n m:Nat}{s:ES}(h:SOk n s)(hm:n≤m):SOk m s:={h with bo:=Nat.le_trans h.bo hm,ql:=Nat.le_trans h.ql hm}
theorem Xm{n:Nat}{s:ES}(h:SOk n s)(i:Nat){b:List Fa}(hb:b.length≤1000000000000)(hbs:∀y∈b,y.Sm):SOk (n+2) (H6 s i b):=by
 rcases Rk s i b with e|⟨f,q,o,_,hn,hok,e,hq,ho⟩
 ·rw[e];exact h.le (by omega)
 ·have hf:=X0 hok
  rw[e];have hql:q.length≤1∧∀y∈q,y.Sm:=by rcases hq with rfl|rfl<;>simp[hf]
  have hol:o.length≤1∧∀y∈o,y.1.Sm:=by rcases ho with rfl|rfl<;>simp[hf]
  have h1:=h.ql;have h2:=h.bo;refine{h with br:=Fv Bw h.br,bo:=?_,bs:=fun d hd=>?_,ql:=?_,qs:=fun y hy=>?_,os:=fun y hy=>?_}
  ·have:=Og (c:=B6) (b:=(⟨i,f,b⟩:De)) (l:=s.B)
   show(By B6 ⟨i,f,b⟩ s.B).length+(s.outs++o).length≤n+2;rw[List.length_append];omega
  ·rcases(Fq Bw).1 hd with rfl|hd
   ·exact⟨hf,hb,hbs⟩
   ·exact h.bs d hd
  ·show(s.queue++q).length≤n+2
   rw[List.length_append];omega
  ·rcases List.mem_append.1 hy with hy|hy
   ·exact h.qs y hy
   ·exact hql.2 y hy
  ·rcases List.mem_append.1 hy with hy|hy
   ·exact h.os y hy
   ·exact hol.2 y hy
def bdS(i:Nat)(l:List (List Fa))(s:ES):ES:=l.foldl (fun s b=>H6 s i b) s
def ltS(me:ByteArray)(f:Fa)(T:List Fa)(i:Nat)(r:Rl)(k:Nat)(s:ES):ES:=(List.range k).foldl (fun s (j:Nat)=>bdS i (Gb r me (j:Int) f T) s) s
def rlZ:Rl:=⟨.zero,emp,[],.zero,[]⟩
def rlS(me:ByteArray)(f:Fa)(T:List Fa)(rules:List Rl)(k:Nat)(s:ES):ES:=(List.range k).foldl (fun s i=>ltS me f T i (rules.getD i rlZ) (rules.getD i rlZ).bo.length s) s
theorem Ur{i:Nat}{l:List (List Fa)}{k:Nat}(s:ES)(h:k<l.length):bdS i (l.take (k+1)) s=H6 (bdS i (l.take k) s) i l[k]:=by
 unfold bdS;rw[List.take_add_one,List.getElem?_eq_getElem h];simp only[Option.toList,List.foldl_append,List.foldl_cons,List.foldl_nil]
theorem Px{me:ByteArray}{f:Fa}{T:List Fa}{i:Nat}{r:Rl}{k:Nat}{s:ES}:ltS me f T i r (k+1) s=bdS i (Gb r me k f T) (ltS me f T i r k s):=by
 unfold ltS;rw[List.range_succ,List.foldl_append];rfl
theorem Qb{me:ByteArray}{f:Fa}{T:List Fa}{rules:List Rl}{k:Nat}{s:ES}:rlS me f T rules (k+1) s=ltS me f T k (rules.getD k rlZ) (rules.getD k rlZ).bo.length (rlS me f T rules k s):=by
 unfold rlS;rw[List.range_succ,List.foldl_append];rfl
theorem Is(i:Nat):∀(l:List (List Fa)) (s:ES),SK s (bdS i l s)
 | [],s=>.refl s
 |b::l,s=>(Adw s i b).trans (Is i l (H6 s i b))
theorem L6(me:ByteArray)(f:Fa)(T:List Fa)(i:Nat)(r:Rl)(s:ES):∀k,SK s (ltS me f T i r k s)
 |0=>.refl s
 |k+1=>by rw[Px];exact(L6 me f T i r s k).trans (Is i _ _)
theorem Qa(me:ByteArray)(f:Fa)(T:List Fa)(rules:List Rl)(s:ES):∀k,SK s (rlS me f T rules k s)
 |0=>.refl s
 |k+1=>by rw[Qb];exact(Qa me f T rules s k).trans (L6 me f T k _ _ _)
theorem Sz{r:Rl}{me:ByteArray}{j:Int}{f:Fa}{T:List Fa}(hf:f.Sm)(hT:∀y∈T,y.Sm){b:List Fa}(hb:b∈Gb r me j f T):b.length=r.bo.length∧∀y∈b,y.Sm:=by
 unfold Gb at hb;rw[C7 Ea]at hb;have hb:b∈Ks r me j f T:=by simpa using hb
 unfold Ks at hb;split at hb
 ·have:=Ta r.ho r.bo (Dz j f T) (fun k x hx=>by
   unfold Dz at hx;split at hx
   ·rw[List.mem_singleton.1 hx];exact hf
   ·exact hT x hx) (Gt r j) _ (List.replicate r.bo.length .zero) (fun x hx=>by rw[List.eq_of_mem_replicate hx];show([]:List Cn).length≤_;simp) b hb
  rw[List.length_replicate]at this;exact this
 ·cases hb
theorem W7{n:Nat}(i:Nat){m:Nat}(hm:m≤1000000000000):∀(l:List (List Fa)) (s:ES),SOk n s→(∀b∈l,b.length=m∧∀y∈b,y.Sm)→SOk (n+2*l.length) (bdS i l s)
 | [],s,h,_=>h
 |b::l,s,h,hl=>by
  have hb:=hl b (by simp);have:=W7 i hm l (H6 s i b) (Xm h i (by omega) hb.2) fun c hc=>hl c (by simp[hc]);exact this.le (by simp only[List.length_cons];omega)
def Hn(l:List Rl):Nat→Nat
 |0=>0
 |k+1=>Hn l k+(l.getD k rlZ).bo.length
theorem Zy(l:List Rl){i:Nat}:∀{k:Nat},i≤k→Hn l i≤Hn l k
 |0,h=>by rw[Nat.le_zero.1 h];exact Nat.le_refl _
 |k+1,h=>by
  by_cases e:i=k+1
  ·rw[e];exact Nat.le_refl _
  ·have:=Zy l (show i≤k by omega)
   show Hn l i≤Hn l k+_;omega
theorem Aei{n:Nat}{me:ByteArray}{f:Fa}{T:List Fa}(i:Nat){r:Rl}{s:ES}(h:SOk n s)(hr:r.S4)(hf:f.Sm)(hT:∀y∈T,y.Sm):∀(k:Nat),k≤r.bo.length→(∀j:Nat,j<k→(Ks r me j f T).length≤30001)→SOk (n+k*60002) (ltS me f T i r k s)
 |0,_,_=>h.le (Nat.le_add_right _ _)
 |k+1,hk,hw=>by
  have h1:=Aei i h hr hf hT k (by omega) fun j hj=>hw j (by omega);have h2:=hw k (by omega);have h3:(Gb r me k f T).length≤30001:=Nat.le_trans Cu (by simp only[List.length_nil];omega);have hbo:=hr.1.1;rw[Px];exact(W7 i (m:=r.bo.length) (by omega) _ _ h1 fun b hb=>Sz hf hT hb).le (by omega)
theorem Ae6{n:Nat}{me:ByteArray}{f:Fa}{T:List Fa}{rules:List Rl}{s:ES}(h:SOk n s)(hr:∀r∈rules,r.S4)(hf:f.Sm)(hT:∀y∈T,y.Sm):∀(k:Nat),k≤rules.length→(∀i (hi:i<rules.length) (j:Nat),j<rules[i].bo.length→(Ks rules[i] me j f T).length≤30001)→SOk (n+Hn rules k*60002) (rlS me f T rules k s)
 |0,_,_=>by show SOk (n+0*60002) s;exact h.le (Nat.le_add_right _ _)
 |k+1,hk,hw=>by
  have h1:=Ae6 h hr hf hT k (by omega) hw;have e:rules.getD k rlZ=rules[k]:=Of (by omega) _;have h2:=Aei (me:=me) (T:=T) k h1 (hr _ (List.getElem_mem (show k<rules.length by omega))) hf hT rules[k].bo.length (Nat.le_refl _) fun j hj=>hw k (by omega) j hj;rw[Qb];show SOk (n+(Hn rules k+(rules.getD k rlZ).bo.length)*60002) _;rw[e];exact h2.le (by omega)
section
variable{σ σ1:St}{x:Nat}{a:EA}{s:ES}{n:Nat}
theorem EV.lg(h:EV false σ x a s false):LAt 4 σ a.gv (faC s.given):=h.cg
theorem EV.setG(h:EV false σ x a s false){v:AV}{l:List Fa}(h1:LAt 4 σ1 v (faC l))(hs:∀y o,σ y=some o→¬Own a.gv y→σ1 y=some o∧¬Own v y):
  σ1 x=some (.cells (evC false s a false))∧EV false (σ1.set x (.cells (evC false {s with given:=l} {a with gv:=v} false))) x {a with gv:=v} {s with given:=l} false∧Frm x a {a with gv:=v} σ (σ1.set x (.cells (evC false {s with given:=l} {a with gv:=v} false))):=by
 have kx:=hs _ _ h.cx h.noX.1;have kt:=hs _ _ h.ct h.noT.1;have kb:=hs _ _ h.cb h.noB.1;have nq:∀y,Hc a.qv y→¬Own a.gv y:=fun y ho hg=>h.gq y hg ho;refine⟨kx.1,⟨Ab,by rw[Ad h.xt.symm];exact kt.1,by rw[Ad h.xb.symm];exact kb.1,?_,?_,?_,h.xt,h.xb,h.tb,fun y ho hq=>?_⟩,fun y o hy hn=>?_⟩
 ·show LAt 4 _ v (faC l)
  exact h1.keep fun y o hy ho=>by rw[Ad (fun e=>by rw[e]at ho;exact kx.2 ho)];exact hy
 ·exact h.cq.keep fun y o hy ho=>by rw[Ad (fun e=>by rw[e]at ho;exact h.noX.2.1 ho)];exact(hs y o hy (nq y ho)).1
 ·exact h.co.keep fun y o hy ho=>by rw[Ad (fun e=>by rw[e]at ho;exact h.noX.2.2 ho)];exact(hs y o hy (h.goq ho).1).1
 ·obtain⟨rs,c,hc⟩:=h.cq.rows hq
  exact(hs _ _ hc (nq y hq)).2 ho
 ·have hq:¬Own a.gv y:=fun e=>hn (.inr (.inr (.inr (.inl e))))
  have hx:y≠x:=fun e=>hn (.inl e);have k:=hs y o hy hq;refine⟨by rw[Ad hx];exact k.1,fun hf=>?_⟩;rcases hf with e|e|e|e|e|e
  ·exact hx e
  ·exact hn (.inr (.inl e))
  ·exact hn (.inr (.inr (.inl e)))
  ·exact k.2 e
  ·exact hn (.inr (.inr (.inr (.inr (.inl e)))))
  ·exact hn (.inr (.inr (.inr (.inr (.inr e)))))
def Lz(s:ES)(f:Fa):Int×ES:=if okF f=true then(if f.at'=s.me then(if f∈s.given then(151,s)else(0,{s with given:=Cc A4 [] (s.given++[f]),queue:=s.queue++[f]}))else(250,s))else(40,s)
theorem Xk(h:EV false σ x a s false)(hs:SOk n s)(hn:n≤800000000000)(f:Fa):
  AT Tryz.prog 16 [ptr x,.agg f.cs] σ fun r σ'=>r=int (Lz s f).1∧∃a',EV false σ' x a' (Lz s f).2 false∧Frm x a a' σ σ':=by
 refine AT.ob Tryz.func16 rfl ?_;simp only[go_sem];refine Ctx.nil.alloc fun p σ2 c2=>?_;have hp:=c2.g0;have hsb:=c2.sub;have fp:=c2.f0;clear c2;have h2:=h.more hsb;simp only[go_sem];refine(Iy h2).p ?_;have stay:∀{k:Int},Lz s f=(k,s)→∀{fr:Fr},Bj Tryz.prog fr σ2 (Tryz.f16).results.toList=some (int k)→Fp Tryz.prog (fun r σ'=>r=int (Lz s f).1∧∃a',EV false σ' x a' (Lz s f).2 false∧Frm x a a' σ σ') (Tryz.f16).results.toList fr σ2:=fun e _ hr=>
  Ac hr ⟨by rw[e],a,by rw[e];exact h2,.of hsb⟩
 simp only[go_sem,hp];refine(O5 f).p ?_;have hx2:=h2.cx;cases hok:okF f with
 |false=>
  have e1:okE f=40:=by unfold okE;rw[hok];rfl
  have d2:(!decide (okE f=0))=true:=by rw[e1];rfl
  simp only[go_sem,d2];exact stay (by unfold Lz;rw[hok];rfl) (by rw[e1];rfl)
 |true=>
 have e1:okE f=0:=by unfold okE;rw[hok];rfl
 have d2:(!decide (okE f=0))=false:=by rw[e1];rfl
 have hfs:=X0 hok;simp only[go_sem,d2];refine Ag [.rd 0 false,.rd 1 true,.rd 2 false,.rd 3 false,.rd 4 false,.rd 5 true,.rd 6 false] ?_;simp only[go_sem,hp,hx2];by_cases hat:f.at'=s.me
 case neg=>
  simp only[go_sem,decide_eq_false hat];exact stay (by unfold Lz;rw[hok,if_pos rfl,if_neg hat]) rfl
 simp only[go_sem,decide_eq_true hat];refine Ag [.rd 0 false,.rd 1 false,.rd 2 false,.rd 3 true,.rd 4 true,.ef 5 []] ?_;simp only[go_sem,hp,hx2];have hgl:=hs.gl;refine(Po s.given f (.of h2.lg) (by omega) hs.gs hfs).p ?_;by_cases hin:f∈s.given
 ·simp only[go_sem,decide_eq_true hin]
  exact stay (by unfold Lz;rw[hok,if_pos rfl,if_pos hat,if_pos hin]) rfl
 have hfr:Lz s f=(0,{s with given:=Cc A4 [] (s.given++[f]),queue:=s.queue++[f]}):=by unfold Lz;rw[hok,if_pos rfl,if_pos hat,if_neg hin]
 have hfl:f.ar.length≤1000000000000:=hfs;simp only[go_sem,decide_eq_false hin,hp];refine(Gd f.ar hfl).p ?_;have esp:Au f.cs 3 [.sl 3 (cnC f.ar)]=f.cs:=rfl;have eid:σ2.set p (.cells f.cs)=σ2:=Bv hp;simp only[go_sem,hp,esp,eid];refine Ag [.rd 0 false,.rd 1 false,.rd 2 false,.rd 3 false,.rd 4 true,.rd 5 true,.rd 6 false,.ef 7 [],.ef 8 [],.rd 9 false,.rd 10 false,.ef 11 []] ?_;simp only[go_sem,hp,hx2];refine As (ys:=[f.cs]) rfl (by decide) (by decide) (by decide) (h2.lg.app (by rw[Am];simp only[List.length_cons,List.length_nil];omega) fun v' σ3 k1 k2=>?_);rw[show faC s.given++[f.cs]=faC (s.given++[f]) by simp[faC]]at k1;simp only[go_sem];refine(Ib (s.given++[f]) (.of k1) (by rw[List.length_append];simp only[List.length_cons,List.length_nil];omega) (fun y hy=>?_)).mono ?_
 ·rcases List.mem_append.1 hy with hy|hy
  ·exact hs.gs y hy
  ·rw[List.mem_singleton.1 hy];exact hfs
 rintro v2 σ4 hM;obtain⟨kx,kE,kF⟩:=h2.setG hM.1.lat fun y o hy ho=>hM.grow _ _ (k2 y o hy ho).1;have hp4:=(hM.2.1 _ _ (k2 _ _ hp (h2.lg.not_own hp)).1);have hpx:p≠x:=fun e=>by rw[e,h.cx]at fp;cases fp
 have esp:Au (evC false s a false) 5 [v2]=evC false {s with given:=Cc A4 [] (s.given++[f])} {a with gv:=v2} false:=rfl;simp only[go_sem,kx,hM.1.lat.one,hM.1.lat.cells,esp,kE.all1];have F3:=(Frm.of hsb).trans kF;obtain⟨s1,hs1⟩:∃s1:ES,s1={s with given:=Cc A4 [] (s.given++[f])}:=⟨_,rfl⟩;rw[←hs1]at kE F3⊢;have q1:s1.queue=s.queue:=by rw[hs1]
 have hp5:(σ4.set x (.cells (evC false s1 {a with gv:=v2} false))) p=some (.cells f.cs):=by rw[Ad hpx];exact hp4
 clear kx kF;generalize σ4.set x (.cells (evC false s1 {a with gv:=v2} false))=σ5 at kE F3 hp5⊢;have hx5:=kE.cx;have hql:=hs.ql;refine Ag [.rd 0 false,.rd 1 false,.rd 2 false,.rd 3 false,.rd 4 true,.rd 5 true,.rd 6 false,.ef 7 [],.rd 8 false,.rd 9 false,.ef 10 []] ?_;simp only[go_sem,hx5,hp5];refine As (ys:=[f.cs]) rfl (by decide) (by decide) (by decide) (kE.cq.app (by decide) (by simp) (by rw[Am,q1];simp only[List.length_cons,List.length_nil];omega) fun v' σ4 k1 k2=>?_);rw[show faC s1.queue++[f.cs]=faC (s1.queue++[f]) by simp[faC]]at k1;obtain⟨kx,kE,kF⟩:=kE.setQ k1 k2;have esp:Au (evC false s1 {a with gv:=v2} false) 6 [v']=evC false {s1 with queue:=s1.queue++[f]} {a with gv:=v2,qv:=v'} false:=rfl;simp only[go_sem,kx,k1.one,k1.cells,esp,kE.all1];refine Ac (r:=int 0) rfl ⟨by rw[hfr],_,?_,F3.trans kF⟩;rw[hfr];rw[hs1]at kE⊢;exact kE
end
def Kd(s:ES):Bool×ES:=if s.full=true then(false,s)else match s.queue with
 | []=>(false,s)
 |f::q=>if f∈s.T∨(f∉s.given∧(ofF s.B f).length=0)then(true,{s with queue:=q})
  else if(Fj s.T s.lim f).2=0 then(true,rlS s.me f (Fj s.T s.lim f).1 s.rules s.rules.length {s with queue:=q,T:=(Fj s.T s.lim f).1})
  else(true,{s with queue:=q,T:=(Fj s.T s.lim f).1,full:=true})
theorem Ae0{T:List Fa}{lim:Int}{f:Fa}(h:TOk T lim)(hl:(T.length:Int)≤lim)(hm:lim≤4096)(hf:f.Sm):TOk (Fj T lim f).1 lim∧((Fj T lim f).1.length:Int)≤lim:=by
 unfold Fj;have hi:=Og (c:=A4) (b:=f) (l:=T)
 repeat' split
 all_goals first|exact⟨h,hl⟩|skip
 refine⟨⟨Fv Ap h.rises,?_,fun y hy=>?_,h.lim⟩,?_⟩
 ·show(By A4 f T).length≤1000000
  omega
 ·rcases(Fq Ap).1 hy with rfl|hy
  ·exact hf
  ·exact h.sm _ hy
 ·show((By A4 f T).length:Int)≤lim
  omega
def Y0(s:ES):Prop:=s.full=false→∀f q,s.queue=f::q→¬(f∈s.T∨(f∉s.given∧(ofF s.B f).length=0))→(Fj s.T s.lim f).2=0→∀i (hi:i<s.rules.length) (j:Nat),j<s.rules[i].bo.length→(Ks s.rules[i] s.me j f (Fj s.T s.lim f).1).length≤30001
theorem Afb{n:Nat}{s:ES}(h:SOk n s)(hw:Y0 s):SOk (n+Hn s.rules s.rules.length*60002) (Kd s).2:=by
 unfold Kd;split
 ·exact h.le (Nat.le_add_right _ _)
 rename_i hfl;split
 ·exact h.le (Nat.le_add_right _ _)
 rename_i f q hq;have hf:=h.qs f (by rw[hq];simp);have hql:=h.ql;rw[hq]at hql;simp only[List.length_cons]at hql;obtain⟨p1,p2⟩:=Ae0 h.tok h.tl h.lm hf;have h1:SOk n {s with queue:=q}:={h with ql:=(by show q.length≤n;omega),qs:=fun y hy=>h.qs y (by rw[hq];exact List.mem_cons_of_mem _ hy)};have h2:SOk n {s with queue:=q,T:=(Fj s.T s.lim f).1}:={h1 with tok:=p1,tl:=p2};split
 ·exact h1.le (Nat.le_add_right _ _)
 rename_i hns;split
 ·rename_i hp
  exact Ae6 h2 h.rs hf p1.sm _ (Nat.le_refl _) (hw (by simpa using hfl) f q hq hns hp)
 ·exact{h2.le (Nat.le_add_right _ _)with}
theorem El{σ:St}{x:Nat}{a:EA}{s:ES}(h:EV false σ x a s false){y:Nat}(hf:Dh x a y):∃o,σ y=some o:=by
 rcases hf with rfl|rfl|rfl|e|e|e
 ·exact⟨_,h.cx⟩
 ·exact⟨_,h.ct⟩
 ·exact⟨_,h.cb⟩
 ·obtain⟨c,hc⟩:=h.grow e;exact⟨_,hc⟩
 ·obtain⟨r,c,hc⟩:=h.cq.rows e;exact⟨_,hc⟩
 ·obtain⟨c,hc⟩:=h.co.own_rows e;exact⟨_,hc⟩
theorem Pn{σ:St}(r:Rl)(me:ByteArray)(first:Int)(f:Fa)(l:List Fa)(hr:r.S3)(hf:f.Sm)(hl:l.length≤1000000)(hls:∀y∈l,y.Sm)(hn:(Ks r me first f l).length≤1000000):
  AT Tryz.prog 53 [.agg r.cs,str me,int first,.agg f.cs,.sl 4 (faC l)] σ fun v σ'=>v= .sl 1 (boC (Gb r me first f l))∧σ'=σ:=
 (Aa6 r me first f l hr hf hl hls hn).post (by kernel_rfl) fun v σ' h=>⟨_,_,h.view,rfl,rfl⟩
structure SI(σ0:St)(x:Nat)(a:EA)(p d:Nat)(f:Fa)(T:List Fa)(lv:AV)(σ:St)(a':EA)(s':ES):Prop where
 ev:EV false σ x a' s' false
 fr:Frm x a a' σ0 σ
 kp:σ p=some (.cells f.cs)
 np:¬Dh x a' p
 kd:σ d=some (.cells [lv])
 nd:¬Dh x a' d
 rd:Rd 4 σ lv (faC T)
 own:∀y,Own lv y→¬Dh x a' y∧∀o,σ0 y=some o→Dh x a y
 od:∀o,σ0 d=some o→Dh x a d
 pd:p≠d
theorem SI.let{σ0 σ:St}{x p d:Nat}{a a':EA}{f:Fa}{T:List Fa}{lv:AV}{s':ES}(h:SI σ0 x a p d f T lv σ a' s'):
  ∃σ',SV σ σ'∧VW σ σ' lv (.sl 4 (faC T))∧SI σ0 x a p d f T (.sl 4 (faC T)) σ' a' s'∧∀y cs,y≠d→σ y=some (.cells cs)→σ' y=some (.cells cs):=by
 rcases h.rd with e|hL
 ·subst e
  exact⟨σ,Jg fun _ _ h=>.inl h,.refl _,h,fun _ _ _ hy=>hy⟩
 have hod:¬Own lv d:=hL.not_own h.kd;have hv:VW σ ((St.free σ lv).set d (.cells [.sl 4 (faC T)])) lv (.sl 4 (faC T)):=hL.vw_same fun y hy=>by
  rw[Ad fun e=>by subst e;exact hod hy];exact Vt hy
 have keep:∀{y o},y≠d→¬Own lv y→σ y=some o→((St.free σ lv).set d (.cells [.sl 4 (faC T)])) y=some o:=fun{y o} h1 h2 h3=>by
  rw[Ad h1,Zu h2];exact h3
 refine⟨_,K8 h.kd (show OW _ _ (.cells _) (.cells _)from vws_cons hv Cm) fun y o hne hy=>?_,hv,⟨h.ev.keep fun y o hy hf=>keep (fun e=>h.nd (e▸hf)) (fun e=>(h.own y e).1 hf) hy,fun y o hy hn=>?_,keep h.pd (hL.not_own h.kp) h.kp,h.np,Ab,h.nd,.inl rfl,fun y hy=>absurd hy Jy,h.od,h.pd⟩,fun y cs hne hy=>keep hne (hL.not_own hy) hy⟩
 ·by_cases ho:Own lv y
  ·rw[Vt ho]at hy;cases hy
  ·rwa[Zu ho]at hy
 ·have k:=h.fr y o hy hn
  exact⟨keep (fun e=>hn (by rw[e];exact h.od o (e▸hy))) (fun e=>hn ((h.own y e).2 o hy)) k.1,k.2⟩
theorem SI.more{σ0 σ σ':St}{x p d:Nat}{a a':EA}{f:Fa}{T:List Fa}{lv:AV}{s':ES}(h:SI σ0 x a p d f T lv σ a' s')(hs:∀y o,σ y=some o→σ' y=some o):SI σ0 x a p d f T lv σ' a' s':=
 have hr:Rd 4 σ' lv (faC T):=by
  rcases h.rd with e|e
  ·exact .inl e
  ·exact .inr (e.keep fun y o hy _=>hs y o hy)
 {h with ev:=h.ev.more hs,fr:=fun y o hy hn=>⟨hs _ _ (h.fr y o hy hn).1,(h.fr y o hy hn).2⟩,kp:=hs _ _ h.kp,kd:=hs _ _ h.kd,rd:=hr}
theorem SI.go{σ0 σ σ':St}{x p d:Nat}{a a' a2:EA}{f:Fa}{T:List Fa}{s' s2:ES}(h:SI σ0 x a p d f T (.sl 4 (faC T)) σ a' s')(he:EV false σ' x a2 s2 false)(hf:Frm x a' a2 σ σ'):SI σ0 x a p d f T (.sl 4 (faC T)) σ' a2 s2:=
 ⟨he,h.fr.trans hf,(hf _ _ h.kp h.np).1,(hf _ _ h.kp h.np).2,(hf _ _ h.kd h.nd).1,(hf _ _ h.kd h.nd).2,.inl rfl,fun y hy=>absurd hy Jy,h.od,h.pd⟩
section
variable{σ:St}{x:Nat}{a:EA}{s:ES}{n:Nat}
theorem Vp(h:EV false σ x a s false)(hs:SOk n s)(hn:n+Hn s.rules s.rules.length*60002≤800000000000)(hw:Y0 s):
  AT Tryz.prog 37 [ptr x] σ fun r σ'=>r=boo (Kd s).1∧∃a',EV false σ' x a' (Kd s).2 false∧Frm x a a' σ σ':=by
 refine AT.ob Tryz.func37 rfl ?_;simp only[go_sem];refine(Iy h).p ?_;have hx:=h.cx;cases hfu:s.full with
 |true=>
  have e:Kd s=(false,s):=by unfold Kd;rw[hfu];rfl
  simp only[go_sem,hx,hfu];exact Ac (r:=boo false) rfl ⟨by rw[e],a,by rw[e];exact h,.refl⟩
 |false=>
 cases hq:s.queue with
 |nil=>
  have e:Kd s=(false,s):=by unfold Kd;rw[hfu,hq];rfl
  have d0:decide ((s.queue.length:Int)=0)=true:=by rw[hq];rfl
  simp only[go_sem,hx,hfu,h.cq.len,Am,d0];exact Ac (r:=boo false) rfl ⟨by rw[e],a,by rw[e];exact h,.refl⟩
 |cons f q=>
 have d0:decide ((s.queue.length:Int)=0)=false:=by rw[hq];simp;omega
 have hfs:f.Sm:=hs.qs f (by rw[hq];simp);have hcq:LQ 4 σ a.qv (f.cs::faC q):=by have:=h.cq;rw[hq]at this;exact this
 have hst:Kd s=if f∈s.T∨(f∉s.given∧(ofF s.B f).length=0)then(true,{s with queue:=q})
  else if(Fj s.T s.lim f).2=0 then(true,rlS s.me f (Fj s.T s.lim f).1 s.rules s.rules.length {s with queue:=q,T:=(Fj s.T s.lim f).1})
  else(true,{s with queue:=q,T:=(Fj s.T s.lim f).1,full:=true}):=by unfold Kd;rw[hfu,if_neg (by simp),hq]
 simp only[go_sem,hx,hfu,h.cq.len,Am,d0];refine hcq.first (by decide) rfl fun pp hpp=>?_;simp only[go_sem,Aa];refine hpp _ _ _ ?_;simp only[go_sem,Aa];refine Ctx.nil.alloc fun p σ1 c1=>?_;obtain⟨σ2,e2,c2⟩:=c1.abs 0 rfl (.cells f.cs);have hp:σ2 p=some (.cells f.cs):=c2.g0;have hsb:=c2.sub;have fp:σ p=none:=c1.f0;have h2:=h.more hsb;have hx2:=h2.cx;have hcq2:LQ 4 σ2 a.qv (f.cs::faC q):=hcq.keep fun y o hy _=>hsb y o hy;simp only[go_sem,Aa,c1.g0,e2,hx2];clear e2 c2 c1 hpp;refine hcq2.tail fun v' k1 k2=>?_;obtain⟨kx,kE,kF⟩:=h2.setQ (l:=q) (σ1:=σ2) k1 fun y o hy hn=>⟨hy,fun e=>hn ((k2 y).1 e)⟩;have esp:Au (evC false s a false) 6 [v']=evC false {s with queue:=q} {a with qv:=v'} false:=rfl;simp only[go_sem,Aa,hx2,k1.one,k1.cells,esp,kE.all1];have npa:¬Dh x a p:=fun hf=>by obtain⟨o,ho⟩:=El h hf;rw[fp]at ho;cases ho
 have kp:=kF _ _ hp npa;have F3:=(Frm.of hsb).trans kF;obtain⟨a1,ha1⟩:∃a1:EA,a1={a with qv:=v'}:=⟨_,rfl⟩;obtain⟨s1,hs1⟩:∃s1:ES,s1={s with queue:=q}:=⟨_,rfl⟩;rw[←hs1,←ha1]at kE F3 kp⊢;have K1:SK s s1:=by rw[hs1];exact⟨rfl,rfl,rfl,rfl,rfl,rfl,rfl⟩
 have B1:s1.B=s.B:=by rw[hs1]
 have O1:SOk n s1:=by
  have:=hs.ql;rw[hq]at this;rw[hs1];exact{hs with ql:=(by show q.length≤n;simp only[List.length_cons]at this;omega),qs:=fun y hy=>hs.qs y (by rw[hq];exact List.mem_cons_of_mem _ hy)}
 clear kx kF hx2 h2 k1 k2 hcq2 hcq hp esp;generalize σ2.set x (.cells (evC false s1 a1 false))=σ3 at kE F3 kp⊢;obtain⟨hp,np⟩:=kp;have hx3:=kE.cx;have ht3:TB σ3 a1.t s.T s.lim:=by have:=kE.ct;rw[K1.T,K1.lim]at this;exact this
 refine Ag [.rd 0 false,.rd 1 false,.rd 2 false,.rd 3 true,.rd 4 true,.ef 5 [],.rd 6 false,.rd 7 false,.rd 8 false,.rd 9 false,.rd 10 true,.rd 11 true,.ef 12 [],.rd 13 false,.rd 14 false,.rd 15 false,.rd 16 false,.rd 17 false,.rd 18 true,.rd 19 true,.ef 20 [],.rd 21 false,.rd 22 false,.rd 23 false,.rd 24 false] ?_;simp only[go_sem,Aa,hx3,hp];refine(Oi ht3 hs.tok f hfs).p ?_;have hg3:LAt 4 σ3 a1.gv (faC s.given):=by have:=kE.lg;rw[K1.given]at this;exact this
 have hb3:BK σ3 a1.b s.B:=by have:=kE.cb;rw[B1]at this;exact this
 have hgl:=hs.gl;have hbk:=hs.bok (by omega);have skip:Kd s=(true,s1)→∀{fr:Fr},Bj Tryz.prog fr σ3 (Tryz.f37).results.toList=some (boo true)→Fp Tryz.prog (fun r σ'=>r=boo (Kd s).1∧∃a',EV false σ' x a' (Kd s).2 false∧Frm x a a' σ σ') (Tryz.f37).results.toList fr σ3:=fun e _ hr=>
  Ac hr ⟨by rw[e],a1,by rw[e];exact kE,F3⟩
 by_cases hT:f∈s.T
 ·rw[if_pos (.inl hT),←hs1]at hst
  simp only[go_sem,Aa,decide_eq_true hT,Bool.not_true];exact skip hst rfl
 simp only[go_sem,Aa,decide_eq_false hT,Bool.not_false,hx3,hp];refine(Po s.given f (.of hg3) (by omega) hs.gs hfs).p ?_;by_cases hgi:f∈s.given
 case' pos=>
  have hns:¬(f∈s.T∨(f∉s.given∧(ofF s.B f).length=0)):=fun h=>h.elim hT fun h=>h.1 hgi;rw[if_neg hns]at hst;simp only[go_sem,Aa,decide_eq_true hgi,Bool.not_true]
 case' neg=>
  simp only[go_sem,Aa,decide_eq_false hgi,Bool.not_false,hx3,hp];refine(Aer hb3 hbk f hfs).p ?_;by_cases hof:(ofF s.B f).length=0
  case' pos=>
   rw[if_pos (.inr ⟨hgi,hof⟩),←hs1]at hst;have d3:=decide_eq_true (show((ofF s.B f).length:Int)=0 by omega);simp only[go_sem,Aa,d3];exact skip hst rfl
  have hns:¬(f∈s.T∨(f∉s.given∧(ofF s.B f).length=0)):=fun h=>h.elim hT fun h=>hof h.2;rw[if_neg hns]at hst;have d3:=decide_eq_false (show¬((ofF s.B f).length:Int)=0 by omega);simp only[go_sem,Aa,d3]
 all_goals
  obtain⟨T2,er,hP⟩:∃T2 er,Fj s.T s.lim f=(T2,er):=⟨_,_,rfl⟩;obtain⟨pT,pl⟩:=Ae0 hs.tok hs.tl hs.lm hfs;have hw:=hw hfu f q hq hns;simp only[hP]at hst hw pT pl;refine Ag [.rd 0 false,.rd 1 false,.rd 2 false,.rd 3 true,.rd 4 true,.ef 5 [],.rd 6 false] ?_;simp only[go_sem,Aa,hx3,hp];refine(Ain ht3 hs.tok f hfs).mono ?_;rintro _ σ4 ⟨rfl,rfl⟩;simp only[hP];have E4:=kE.setT (T:=T2);obtain⟨s2,hs2⟩:∃s2:ES,s2={s1 with T:=T2}:=⟨_,rfl⟩;rw[←hs2,K1.lim]at E4;have F4:Frm x a a1 σ (σ3.set a1.t (tbC T2 s.lim)):=F3.trans .setT;have hp4:(σ3.set a1.t (tbC T2 s.lim)) p=some (.cells f.cs):=by rw[Ad (fun e=>np (.inr (.inl e)))];exact hp
  have O2:SOk n s2:=by rw[hs2];exact{O1 with tok:=(by show TOk T2 s1.lim;rw[K1.lim];exact pT),tl:=(by show(T2.length:Int)≤s1.lim;rw[K1.lim];exact pl)}
  have r2:s2.rules=s.rules:=by rw[hs2];exact K1.rules
  have m2:s2.me=s.me:=by rw[hs2];exact K1.me
  have e2:s2={s with queue:=q,T:=T2}:=by rw[hs2,hs1]
  have hst2:er=0→Kd s=(true,rlS s.me f T2 s.rules s.rules.length s2):=fun he=>by rw[hst,if_pos he,e2]
  clear skip hg3 hb3 ht3 hx3 kE F3 hp hs2 O1 K1 hs1;generalize σ3.set a1.t (tbC T2 s.lim)=σ4 at E4 F4 hp4⊢;have hx4:=E4.cx;by_cases he:er=0
  case neg=>
   have kE:=E4.setX (f:=true) (hv':=false);have esp:Au (evC false s2 a1 false) 8 [boo true]=evC false {s2 with full:=true} a1 false:=rfl;rw[if_neg he]at hst;simp only[go_sem,Aa,decide_eq_false he,hx4,esp,kE.all1];refine Ac (r:=boo true) rfl ⟨by rw[hst],a1,?_,F4.trans .setX⟩;rw[hst,e2];rw[e2]at kE;exact kE
  have hw:=hw he;simp only[go_sem,Aa,decide_eq_true he];refine Al fun d hd hdm=>?_;clear hdm;have hI0:=OnI.start hd;obtain⟨σ5,e5⟩:∃σ',σ'=σ4.set d (.cells [Ax]):=⟨_,rfl⟩;rw[←e5]at hI0⊢;clear e5;have hx5:=hI0.sub hx4;simp only[go_sem,Aa,hx5];refine T9.mono ?_;rintro _ σ6 ⟨b1,b2,rfl,c⟩;have hI6:=hI0.more c.sub;have hb1:σ6 b1=some (.cells [ptr a1.t]):=c.g1.1.2;have hb2:σ6 b2=some (.cells [fnv 117]):=c.g1.1.1;have n1:b1≠d:=hI0.ne c.f1;have n2:b2≠d:=hI0.ne c.f0;have htb:TB σ4 a1.t T2 s.lim:=by
   have:=E4.ct;rw[e2]at this;exact this
  clear hI0 hx5 c;simp only[go_sem,Aa];refine Js (fun fr=>fr 0=ptr x∧fr 3=ptr p∧fr 4=ptr d) ⟨rfl,rfl,rfl⟩ fun assign body fr hA hB hF=>?_;obtain⟨f0,f3,f4⟩:=hF;intro n' l hl hlm;clear hlm;have htl:=hI6.none hl;have hsl:∀y o,σ6 y=some o→(σ6.set l (.loop fr n' [81] assign body .ready none)) y=some o:=A9 hl fun _ _ h=>h;have tlen:=pT.len;refine(Ni (t:=a1.t) (b1:=b1) (b2:=b2) pT (fun i σ'=>OnI σ4 d (T2.take i) σ'∧σ' l=some (.loop fr n' [81] assign body .ready none)∧σ' b1=some (.cells [ptr a1.t])∧σ' b2=some (.cells [fnv 117])) ?_ ?_ ?_ ⟨by simpa using hI6.more hsl,Ab,hsl _ _ hb1,hsl _ _ hb2⟩).mono ?_
  ·rintro i σ5 ⟨g1,g2,g3,g4⟩
   exact⟨g1.sub htb,g3,g4⟩
  ·rintro i σ5 σ6 ⟨g1,g2,g3,g4⟩ hs
   exact⟨g1.more hs,hs _ _ g2,hs _ _ g3,hs _ _ g4⟩
  ·rintro i σ5 hil ⟨g1,g2,gb1,gb2⟩
   refine Qs hA g2 rfl (by rw[hA,hB];rfl) ?_;have hbg:=fun k fr1 σ1=>Su (P:=Tryz.prog) (l:=l) (fr:=fr) (fr1:=fr1) (σ1:=σ1) (ps:=[81]) (n:=n') (assign:=assign) (k:=k) hB;simp only[go_sem];refine Al fun q' hq' hqm=>?_;obtain⟨σ6,e6⟩:∃s,s=σ5.set q' (.cells T2[i].cs):=⟨_,rfl⟩;have hs6:∀y o,σ5 y=some o→σ6 y=some o:=by rw[e6];exact A9 hq' fun _ _ h=>h
   have hq6:σ6 q'=some (.cells T2[i].cs):=by rw[e6];exact Ab
   have g1':=g1.more hs6;have g2':=hs6 _ _ g2;have gb1':=hs6 _ _ gb1;have gb2':=hs6 _ _ gb2;simp only[go_sem,Ab,B5,←e6,hbg];clear e6 hqm hq' g1 g2 gb1 gb2;refine⟨g2',?_⟩;have g3:=g1'.loop (σ':=σ6.set l (.loop fr n' [81] assign body .busy none)) g2' htl fun y hy=>Ad hy;have g4:(σ6.set l (.loop fr n' [81] assign body .busy none)) l=some (.loop fr n' [81] assign body .busy none):=Ab;have ncl:∀{y cs},σ6 y=some (.cells cs)→(σ6.set l (.loop fr n' [81] assign body .busy none)) y=some (.cells cs):=fun{y cs} hy=>by rw[Ad (fun e=>by rw[e,g2']at hy;cases hy)];exact hy
   have g5:=ncl hq6;have g6:=ncl gb1';have g7:=ncl gb2';clear ncl gb1' gb2' hq6 g1' g2' hs6;generalize σ6.set l (.loop fr n' [81] assign body .busy none)=σ7 at g3 g4 g5 g6 g7⊢;obtain⟨hd0,lv,k1,k2,k3⟩:=g3;have hld:l≠d:=fun e=>by rw[e,k1]at g4;cases g4
   have nl:¬Own lv l:=fun ho=>by obtain⟨cap,h⟩:=k2.own_rows ho;rw[g4]at h;cases h
   simp only[go_sem,Aa,f4,k1,g5];refine As (ys:=[T2[i].cs]) rfl (by decide) (by decide) (by decide) (k2.app (by rw[Am,List.length_take];simp only[List.length_cons,List.length_nil];omega) fun lv' σ8 hL4 hs4=>?_);obtain⟨y6,y7⟩:=OnI.app hd0 k1 k2 k3 hL4 hs4;have m6:=hs4 _ _ g4 nl;have mb1:=(hs4 _ _ g6 (k2.not_own g6)).1;have mb2:=(hs4 _ _ g7 (k2.not_own g7)).1;simp only[go_sem,Aa,y7,f4,hL4.one,hL4.cells,Tu];have g6':(σ8.set d (.cells [lv'])) l=some (.loop fr n' [81] assign body .busy none):=by rw[Ad hld];exact m6.1
   have ht:T2.take i++[T2[i]]=T2.take (i+1):=by rw[List.take_add_one,List.getElem?_eq_getElem hil];rfl
   rw[ht]at y6;have nb1:b1≠l:=fun e=>by rw[e,m6.1]at mb1;cases mb1
   have nb2:b2≠l:=fun e=>by rw[e,m6.1]at mb2;cases mb2
   exact⟨⟨_,g6'⟩,y6.loop (σ':=(σ8.set d (.cells [lv'])).set l (.loop fr n' [81] assign body .ready none)) g6' htl (fun y hy=>Ad hy),by rw[Ad nb1,Ad n1];exact mb1,by rw[Ad nb2,Ad n2];exact mb2⟩
  ·rintro _ σ5 ⟨g1,g2,g3,g4⟩
   rw[List.take_of_length_le (by omega)]at g1;have hdel:∀y,y≠l→(σ5.del l) y=σ5 y:=fun y hy=>by simp only[St.del];rw[if_neg hy]
   have g5:=g1.loop g2 htl hdel;unfold Ij;rw[g2];refine⟨(by intro h;cases h),?_⟩;unfold Nn
   dsimp only
   clear g1 g2 g3 g4 hdel hb1 hb2 hsl hI6 hl htl;generalize σ5.del l=σ7 at g5⊢;obtain⟨_,lv,k1,k2,k3⟩:=g5;have old:∀y,σ4 y=none→¬Dh x a1 y∧∀o,σ y=some o→Dh x a y:=fun y hy=>⟨fun hf=>(by obtain⟨o,ho⟩:=El E4 hf;rw[hy]at ho;cases ho),fun o ho=>Classical.byContradiction fun hn=>by rw[(F4 y o ho hn).1]at hy;cases hy⟩;have I7:SI σ x a p d f T2 lv σ7 a1 s2:=⟨E4.more k3.sub,F4.trans (.of k3.sub),k3.sub _ _ hp4,np,k1,(old d hd).1,.inr k2,fun y hy=>old y (k3.own hy),(old d hd).2,fun e=>by rw[e,hd]at hp4;cases hp4⟩;have hx7:=I7.ev.cx;clear k1 k2 k3 old E4 F4 hp4 hd hx4 htb;have O20:SOk (n+Hn s.rules 0*60002) (rlS s.me f T2 s.rules 0 s2):=O2.le (Nat.le_add_right _ _);have eR:(rlC s2.rules)=rlC s.rules:=by rw[r2]
   simp only[go_sem,Aa,f0,hx7,eR];refine⟨fun m fr σ'=>∃(i:Nat) (lv:AV) (a':EA) (s':ES),m=s.rules.length-i∧i≤s.rules.length∧s'=rlS s.me f T2 s.rules i s2∧SOk (n+Hn s.rules i*60002) s'∧SI σ x a p d f T2 lv σ' a' s'∧fr 0=ptr x∧fr 3=ptr p∧fr 4=ptr d∧fr 89= .sl 11 (rlC s.rules)∧fr 90=int s.rules.length∧fr 91=int i,⟨_,0,lv,a1,s2,rfl,by omega,rfl,O20,I7,f0,f3,f4,rfl,rfl,rfl⟩,?_⟩;clear I7 O20 hx7 f0 f3 f4;rintro m fr σ1 ⟨i,lv,a',s',rfl,hi,hs',hO,hI,f0,f3,f4,f89,f90,f91⟩;simp only[go_sem,f90,f91];refine aIf_by (fun hlt=>?_) (fun hlt=>?_)
   case' refine_2=>
    have ei:i=s.rules.length:=by omega
    rw[hst2 he]at hst;subst ei;simp only[go_sem,Aa];exact Ac (r:=boo true) rfl ⟨by rw[hst2 he],a',by rw[hst2 he,←hs'];exact hI.ev,hI.fr⟩
   have hil:i<s.rules.length:=by omega
   obtain⟨r,hr⟩:∃r,r=s.rules[i]:=⟨_,rfl⟩;have hr4:=hs.rs _ (List.getElem_mem hil);have hw:=hw i hil;rw[←hr]at hr4 hw;have rg:(rlC s.rules).getD i []=r.cs:=by rw[hr];exact Jz hil
   have hgr:s.rules.getD i rlZ=r:=by rw[Of hil,hr]
   have hbo:=hr4.1.1;have hrl:=hs.rl;have hls:Hn s.rules (i+1)=Hn s.rules i+r.bo.length:=by rw[←hgr];rfl
   have hll:=Zy s.rules (show i+1≤s.rules.length by omega);simp only[go_sem,Aa,f89,f91,rg,G0];refine⟨by omega,Ctx.nil.alloc fun y σ2 c2=>?_⟩;obtain⟨σ3,e3,c3⟩:=c2.abs 0 rfl (.cells r.cs);have hy:σ3 y=some (.cells r.cs):=c3.g0;have ny:¬Dh x a' y:=fun hf=>by
    obtain⟨o,ho⟩:=El hI.ev hf;have:=c2.f0;rw[ho]at this;cases this
   have nyd:y≠d:=fun e=>by
    have:=c2.f0;rw[e,hI.kd]at this;cases this
   have hI:=hI.more c3.sub;simp only[go_sem,Aa,c2.g0,e3,hy];clear e3 c3 c2;obtain⟨z,hz⟩:∃z,z=0:=⟨_,rfl⟩;have OJ:SOk (n+Hn s.rules i*60002+z*60002) s':=SOk.le hO (Nat.le_add_right _ _);refine⟨fun m fr σ'=>∃(j:Nat) (lv:AV) (a':EA) (s':ES),m=r.bo.length-j∧j≤r.bo.length∧s'=ltS s.me f T2 i r j (rlS s.me f T2 s.rules i s2)∧SOk (n+Hn s.rules i*60002+j*60002) s'∧SI σ x a p d f T2 lv σ' a' s'∧σ' y=some (.cells r.cs)∧¬Dh x a' y∧fr 0=ptr x∧fr 3=ptr p∧fr 4=ptr d∧fr 6=int i∧fr 7=ptr y∧fr 89= .sl 11 (rlC s.rules)∧fr 90=int s.rules.length∧fr 91=int i∧fr 98=int r.bo.length∧fr 99=int j,⟨_,0,lv,a',s',rfl,by omega,hs',hz▸OJ,hI,hy,ny,f0,f3,f4,rfl,rfl,f89,f90,f91,rfl,rfl⟩,?_⟩;clear hI OJ hO hs' hz f0 f3 f4 f89 f90 f91 hy ny;rintro m fr σ1 ⟨j,lv,a',s',rfl,hj,hs',hO,hI,hy,ny,f0,f3,f4,f6,f7,f89,f90,f91,f98,f99⟩;simp only[go_sem,f98,f99];refine aIf_by (fun hlt=>?_) (fun hlt=>?_)
   case' refine_2=>
    have ej:j=r.bo.length:=by omega
    have O':SOk (n+Hn s.rules (i+1)*60002) s':=hO.le (by omega);have es':s'=rlS s.me f T2 s.rules (i+1) s2:=by rw[Qb,hgr,hs',ej]
    simp only[go_sem,Aa,f91,A2 i (by omega)];refine⟨s.rules.length-(i+1),by omega,i+1,lv,a',s',rfl,by omega,es',O',hI,f0,f3,f4,f89,f90,rfl⟩
   have hjl:j<r.bo.length:=by omega
   have hw:=hw j hjl;obtain⟨σ2,hsv,hvw,I2,hk⟩:=hI.let;have hx1:=hI.ev.cx;have kp1:=hI.kp;have kd1:=hI.kd;have K':SK s2 s':=by rw[hs'];exact(Qa _ _ _ _ _ _).trans (L6 _ _ _ _ _ _ _)
   have me':s'.me=s.me:=K'.me.trans m2;have rl':s'.rules=s.rules:=K'.rules.trans r2;simp only[go_sem,Aa,f99];refine Ag [.rd 0 true,.rd 1 false,.rd 2 false,.rd 3 false,.rd 4 true,.rd 5 false,.rd 6 true,.rd 7 true,.rd 10 false,.ef 8 [],.rd 9 false] ?_;simp only[go_sem,Aa,f0,f3,f4,f7,hy,hx1,kp1,kd1];refine AT.pre (args':=[.agg r.cs,str s'.me,int j,.agg f.cs,.sl 4 (faC T2)]) ((Pn r s'.me j f T2 hr4.1 hfs pT.len pT.sm (by rw[me'];omega)).mono ?_) (by kernel_rfl) hsv (vws_same (vws_same (vws_same (vws_same (vws_cons hvw Cm)))));rintro _ σ3 ⟨rfl,rfl⟩;rw[me'];have hbl:(Gb r s.me j f T2).length≤30001:=Nat.le_trans Cu (by simp only[List.length_nil];omega);have hbm:∀b∈Gb r s.me j f T2,b.length=r.bo.length∧∀y∈b,y.Sm:=fun b hb=>Sz hfs pT.sm hb;have hy2:=hk y _ nyd hy;obtain⟨L,hL⟩:∃L,L=Gb r s.me j f T2:=⟨_,rfl⟩;rw[←hL]at hbl hbm⊢;have bcl:(boC L).length=L.length:=by simp[boC]
   clear hsv hvw hk hI hx1 kp1 kd1 hy;simp only[go_sem,Aa,bcl];obtain⟨z,hz⟩:∃z,z=0:=⟨_,rfl⟩;have OK0:SOk (n+Hn s.rules i*60002+j*60002+2*z) s':=SOk.le hO (Nat.le_add_right _ _);refine⟨fun m fr σ'=>∃(k:Nat) (a':EA) (s':ES),m=L.length-k∧k≤L.length∧s'=bdS i (L.take k) (ltS s.me f T2 i r j (rlS s.me f T2 s.rules i s2))∧SOk (n+Hn s.rules i*60002+j*60002+2*k) s'∧SI σ x a p d f T2 (.sl 4 (faC T2)) σ' a' s'∧σ' y=some (.cells r.cs)∧¬Dh x a' y∧fr 0=ptr x∧fr 3=ptr p∧fr 4=ptr d∧fr 6=int i∧fr 7=ptr y∧fr 89= .sl 11 (rlC s.rules)∧fr 90=int s.rules.length∧fr 91=int i∧fr 98=int r.bo.length∧fr 99=int j∧fr 110= .sl 1 (boC L)∧fr 111=int L.length∧fr 112=int k,⟨_,0,a',s',rfl,by omega,hs',hz▸OK0,I2,hy2,ny,f0,f3,f4,f6,f7,f89,f90,f91,f98,f99,rfl,rfl,rfl⟩,?_⟩;clear I2 OK0 hO hs' hz hy2 ny f0 f3 f4 f6 f7 f89 f90 f91 f98 f99 K' me' rl';rintro m fr σ1 ⟨k,a',s',rfl,hk,hs',hO,hI,hy,ny,f0,f3,f4,f6,f7,f89,f90,f91,f98,f99,f110,f111,f112⟩;simp only[go_sem,f111,f112];refine aIf_by (fun hlt=>?_) (fun hlt=>?_)
   case' refine_2=>
    have ek:k=L.length:=by omega
    have O':SOk (n+Hn s.rules i*60002+(j+1)*60002) s':=hO.le (by omega);have es':s'=ltS s.me f T2 i r (j+1) (rlS s.me f T2 s.rules i s2):=by rw[Px,hs',ek,List.take_length,hL]
    simp only[go_sem,Aa,f99,A2 j (by omega)];refine⟨r.bo.length-(j+1),by omega,j+1,.sl 4 (faC T2),a',s',rfl,by omega,es',O',hI,hy,ny,f0,f3,f4,f6,f7,f89,f90,f91,f98,rfl⟩
   have hkl:k<L.length:=by omega
   have K':SK s2 s':=by rw[hs'];exact((Qa _ _ _ _ _ _).trans (L6 _ _ _ _ _ _ _)).trans (Is _ _ _)
   have rl':s'.rules=s.rules:=K'.rules.trans r2;have hb:=hbm _ (List.getElem_mem hkl);have hil':i<s'.rules.length:=by rw[rl'];exact hil
   have hri:s'.rules[i]=r:=by rw[hr];exact List.getElem_of_eq rl' hil'
   have O':SOk (n+Hn s.rules i*60002+j*60002+2*(k+1)) (H6 s' i L[k]):=Xm hO i (by omega) hb.2;have es':H6 s' i L[k]=bdS i (L.take (k+1)) (ltS s.me f T2 i r j (rlS s.me f T2 s.rules i s2)):=by rw[Ur _ hkl,hs']
   simp only[go_sem,Aa,f0,f6,f110,f112,Sy hkl,bcl];refine⟨by omega,(Vr hI.ev hO (by omega) i hil' L[k] (by rw[hri];exact hb.1) hb.2).mono ?_⟩;rintro _ σ2 ⟨a2,E2,G2⟩;have ky:=G2 _ _ hy ny;simp only[go_sem,Aa,f112,A2 k (by omega)];refine⟨L.length-(k+1),by omega,k+1,a2,_,rfl,by omega,es',O',hI.go E2 G2,ky.1,ky.2,f0,f3,f4,f6,f7,f89,f90,f91,f98,f99,f110,f111,rfl⟩
end
def badR(l:List Rl):Prop:=∃r∈l,∃y∈r.bo,y.at'≠.zero
def iniS(me:ByteArray)(names:List ByteArray)(lim:Int)(rules:List Rl):ES:=⟨me,names,rules,[],lim,[],[],[],[],false⟩
def faZ:Fa:=⟨emp,emp,emp,[]⟩
def zerS(me:ByteArray)(rules:List Rl)(k:Nat)(s:ES):ES:=(List.range k).foldl (fun s i=>if(rules.getD i rlZ).bo.length=0 then bdS i (Gb (rules.getD i rlZ) me (-1) faZ []) s else s) s
def newS(me:ByteArray)(names:List ByteArray)(lim:Int)(rules:List Rl):ES:=zerS me rules rules.length (iniS me names lim rules)
theorem Nl{me:ByteArray}{rules:List Rl}{k:Nat}{s:ES}:zerS me rules (k+1) s=if(rules.getD k rlZ).bo.length=0 then bdS k (Gb (rules.getD k rlZ) me (-1) faZ []) (zerS me rules k s)else zerS me rules k s:=by
 unfold zerS;rw[List.range_succ,List.foldl_append];rfl
theorem Nk(me:ByteArray)(rules:List Rl)(s:ES):∀k,SK s (zerS me rules k s)
 |0=>.refl s
 |k+1=>by
  rw[Nl];split
  ·exact(Nk me rules s k).trans (Is _ _ _)
  ·exact Nk me rules s k
theorem Vq{r:Rl}{me:ByteArray}{j:Int}{f:Fa}{T:List Fa}(h:r.bo.length=0):(Ks r me j f T).length≤1:=by
 unfold Ks;split
 ·have e:Gt r j=[]:=by
   have h1:=P5 r j;have h2:Perm r.bo.length (Gt r j):=(Oh r j).1;rw[h]at h2;cases ho:Gt r j with
   |nil=>rfl
   |cons k l=>
    have:=h2.2 k (by rw[ho];simp);omega
  rw[e];show(Cs r.ho r.bo (Dz j f T) [] _ _).length≤1;rw[Cs];simp
 ·simp
theorem Ad2{n:Nat}{me:ByteArray}{names:List ByteArray}{lim:Int}{rules:List Rl}(h1:1≤lim)(h2:lim≤4096)(hr:∀r∈rules,r.S4)(hl:rules.length≤1000000)(hn:names.length≤1000000):SOk n (iniS me names lim rules) where
 tok:=⟨.nil,Nat.zero_le _,(fun f hf=>by cases hf),(by show lim≠0;omega)⟩
 tl:=by show((0:Nat):Int)≤lim;omega
 lm:=h2
 br:=.nil
 bo:=Nat.zero_le _
 bs:=fun d hd=>by cases hd
 ql:=Nat.zero_le _
 qs:=fun d hd=>by cases hd
 os:=fun d hd=>by cases hd
 gr:=.nil
 gl:=Nat.zero_le _
 gs:=fun d hd=>by cases hd
 rs:=hr
 rl:=hl
 nl:=hn
theorem Afp{n:Nat}{me:ByteArray}{rules:List Rl}{s:ES}(h:SOk n s):∀k,SOk (n+2*k) (zerS me rules k s)
 |0=>h
 |k+1=>by
  have ih:=Afp (me:=me) (rules:=rules) h k;rw[Nl];split
  ·rename_i h0
   have h1:=Vq (me:=me) (j:= -1) (f:=faZ) (T:=[]) h0;have h2:(Gb (rules.getD k rlZ) me (-1) faZ []).length≤1:=Nat.le_trans Cu (by simp only[List.length_nil];omega)
   exact(W7 k (m:=0) (by omega) _ _ ih fun b hb=>by
    have:=Sz (by show([]:List Cn).length≤_;simp) (fun y hy=>by cases hy) hb;rw[h0]at this;exact this).le (by omega)
  ·exact ih.le (by omega)
section
variable{σ:St}
theorem Agy(me:ByteArray)(names:List ByteArray)(lim:Int)(rules:List Rl)(hn:names.length≤1000000)(hl:rules.length≤1000000)(hr:∀r∈rules,r.S4):
  AT Tryz.prog 15 [str me,.sl 1 (stC names),int lim,.sl 11 (rlC rules)] σ fun v σ'=>
   (v= .tup [.v (.pointer none),int 2]∧(me∉names∨badR rules∨¬(1≤lim∧lim≤4096))∧∀y o,σ y=some o→σ' y=some o)∨
   (me∈names∧¬badR rules∧1≤lim∧lim≤4096∧∃x a,v= .tup [ptr x,int 0]∧EV false σ' x a (newS me names lim rules) false∧∀y o,σ y=some o→σ' y=some o∧¬Dh x a y):=by
 refine AT.ob Tryz.func15 rfl ?_;have no:(me∉names∨badR rules∨¬(1≤lim∧lim≤4096))→∀{fr:Fr} {σ':St},(∀y o,σ y=some o→σ' y=some o)→Bj Tryz.prog fr σ' (Tryz.f15).results.toList=some (.tup [.v (.pointer none),int 2])→Fp Tryz.prog (fun v σ'=>(v= .tup [.v (.pointer none),int 2]∧(me∉names∨badR rules∨¬(1≤lim∧lim≤4096))∧∀y o,σ y=some o→σ' y=some o)∨(me∈names∧¬badR rules∧1≤lim∧lim≤4096∧∃x a,v= .tup [ptr x,int 0]∧EV false σ' x a (newS me names lim rules) false∧∀y o,σ y=some o→σ' y=some o∧¬Dh x a y)) (Tryz.f15).results.toList fr σ':=fun h _ _ hs hr=>
  Ac hr (.inl ⟨rfl,h,hs⟩)
 simp only[go_sem];refine(Xp (l:=names) (s:=me) (by omega) .sl).p ?_;by_cases hnm:me∈names
 case neg=>
  simp only[go_sem,decide_eq_false hnm,Bool.not_false];exact no (.inl hnm) (fun _ _ h=>h) rfl
 simp only[go_sem,decide_eq_true hnm,Bool.not_true,G0];refine⟨fun m fr σ'=>∃i:Nat,m=rules.length-i∧i≤rules.length∧(∀k (hk:k<rules.length),k<i→∀y∈rules[k].bo,y.at'= .zero)∧(∀y o,σ y=some o→σ' y=some o)∧fr 0=str me∧fr 1= .sl 1 (stC names)∧fr 2=int lim∧fr 3= .sl 11 (rlC rules)∧fr 25= .sl 11 (rlC rules)∧fr 26=int rules.length∧fr 27=int i,⟨_,0,rfl,by omega,fun k hk h=>by omega,fun _ _ h=>h,rfl,rfl,rfl,rfl,rfl,rfl,rfl⟩,?_⟩;rintro m fr σ1 ⟨i,rfl,hi,hz,hsb,f0,f1,f2,f3,f25,f26,f27⟩;simp only[go_sem,f26,f27];refine aIf_by (fun hlt=>?_) (fun hlt=>?_)
 case' refine_1=>
  have hil:i<rules.length:=by omega
  obtain⟨r,hrr⟩:∃r,r=rules[i]:=⟨_,rfl⟩;have hr4:=hr _ (List.getElem_mem hil);rw[←hrr]at hr4;have rg:(rlC rules).getD i []=r.cs:=by rw[hrr];exact Jz hil
  have h1:=hr4.1.1;simp only[go_sem,Aa,f25,f27,rg,G0];refine⟨by omega,Ctx.nil.alloc fun p σ2 c2=>?_⟩;obtain⟨σ3,e3,c3⟩:=c2.abs 0 rfl (.cells r.cs);have hp:σ3 p=some (.cells r.cs):=c3.g0;have hs3:∀y o,σ y=some o→σ3 y=some o:=fun y o hy=>c3.sub _ _ (hsb y o hy);have lcl:=Jv r.bo;simp only[go_sem,Aa,c2.g0,e3,hp,lcl];clear e3 c3 c2 hsb;refine⟨fun m fr σ'=>∃j:Nat,m=r.bo.length-j∧j≤r.bo.length∧(∀k (hk:k<r.bo.length),k<j→r.bo[k].at'= .zero)∧(∀y o,σ y=some o→σ' y=some o)∧fr 0=str me∧fr 1= .sl 1 (stC names)∧fr 2=int lim∧fr 3= .sl 11 (rlC rules)∧fr 25= .sl 11 (rlC rules)∧fr 26=int rules.length∧fr 27=int i∧fr 32= .sl 10 (liC r.bo)∧fr 33=int r.bo.length∧fr 34=int j,⟨_,0,rfl,by omega,fun k hk h=>by omega,hs3,f0,f1,f2,f3,f25,f26,f27,rfl,rfl,rfl⟩,?_⟩;clear f0 f1 f2 f3 f25 f26 f27 hs3 hp;rintro m fr σ1 ⟨j,rfl,hj,hz2,hsb,f0,f1,f2,f3,f25,f26,f27,f32,f33,f34⟩;simp only[go_sem,f33,f34];refine aIf_by (fun hlt=>?_) (fun hlt=>?_)
  ·have hjl:j<r.bo.length:=by omega
   simp only[go_sem,Aa,f32,f34,Gz hjl,lcl];refine⟨by omega,Ctx.nil.alloc fun q σ2 c2=>?_⟩;obtain⟨σ3,e3,c3⟩:=c2.abs 0 rfl (.cells r.bo[j].cs);have hq:σ3 q=some (.cells r.bo[j].cs):=c3.g0;have hs3:∀y o,σ y=some o→σ3 y=some o:=fun y o hy=>c3.sub _ _ (hsb y o hy);simp only[go_sem,Aa,c2.g0,e3,hq];clear e3 c3 c2 hsb hq;refine Aj1 ?_;by_cases hat:r.bo[j].at'= .zero
   ·simp only[go_sem,Aa,decide_eq_true hat,f34,A2 j (by omega)]
    refine⟨r.bo.length-(j+1),by omega,j+1,rfl,by omega,fun k hk hkj=>?_,hs3,f0,f1,f2,f3,f25,f26,f27,f32,f33,rfl⟩;by_cases e:k=j
    ·subst e;exact hat
    ·exact hz2 k hk (by omega)
   ·simp only[go_sem,Aa,decide_eq_false hat]
    refine no (.inr (.inl ⟨r,by rw[hrr];exact List.getElem_mem hil,_,List.getElem_mem hjl,hat⟩)) hs3 rfl
  ·simp only[go_sem,Aa,f27,A2 i (by omega)]
   refine⟨rules.length-(i+1),by omega,i+1,rfl,by omega,fun k hk hki=>?_,hsb,f0,f1,f2,f3,f25,f26,rfl⟩;by_cases e:k=i
   ·subst e
    intro y hy;rw[←hrr]at hy;obtain⟨q,hq,e⟩:=List.mem_iff_getElem.1 hy;rw[←e];exact hz2 q hq (by omega)
   ·exact hz k hk (by omega)
 have hgood:¬badR rules:=fun⟨r,hm,y,hy,hne⟩=>by
  obtain⟨k,hk,e⟩:=List.mem_iff_getElem.1 hm;exact hne (hz k hk (by omega) y (by rw[e];exact hy))
 clear hz;simp only[go_sem,Aa,f2];refine(Aim lim).mono ?_;intro v σ2 htn;by_cases hlim:1≤lim∧lim≤4096
 case neg=>
  rw[if_neg hlim]at htn;obtain⟨rfl,rfl⟩:=htn;simp only[go_sem,Aa];exact no (.inr (.inr hlim)) hsb rfl
 rw[if_pos hlim]at htn;obtain⟨t,ft,rfl,rfl⟩:=htn;obtain⟨σ2,e2⟩:∃s,s=σ1.set t (tbC [] lim):=⟨_,rfl⟩;have ht2:σ2 t=some (tbC [] lim):=by rw[e2];exact Ab
 have hs2:∀y o,σ1 y=some o→σ2 y=some o:=by rw[e2];exact A9 ft fun _ _ h=>h
 rw[←e2];clear e2;simp only[go_sem,Aa,f0,f1,f3];refine(W9 names (by omega)).p ?_;simp only[go_sem,Aa,f0,f1,f3];refine(Agz rules hl hr).p ?_;simp only[go_sem,Aa,f0,f1,f3];refine Afu.mono ?_;rintro _ _ ⟨b,fb,rfl,rfl⟩;obtain⟨σ3,e3⟩:∃s,s=σ2.set b (bkC []):=⟨_,rfl⟩;have hb3:σ3 b=some (bkC []):=by rw[e3];exact Ab
 have hs3:∀y o,σ2 y=some o→σ3 y=some o:=by rw[e3];exact A9 fb fun _ _ h=>h
 rw[←e3];clear e3;simp only[go_sem,Aa,f0];refine Al fun x hx hxm=>?_;clear hxm;obtain⟨a0,ha0⟩:∃a0:EA,a0=⟨t,b,Ax,Ax,Ax⟩:=⟨_,rfl⟩;obtain⟨s0,hs0⟩:∃s0,s0=iniS me names lim rules:=⟨_,rfl⟩;have O0:SOk 0 s0:=by rw[hs0];exact Ad2 hlim.1 hlim.2 hr hl hn
 have hcells:([.v (.string me),.sl 1 (stC names),.sl 11 (rlC rules),.v (.pointer (some ⟨t,0,none⟩)),.v (.pointer (some ⟨b,0,none⟩)),.v (.slice none 0 0),.v (.slice none 0 0),.v (.slice none 0 0),.v (.bool false)]:List AV)=evC false s0 a0 false:=by rw[hs0,ha0];rfl
 rw[hcells];have ht3:=hs3 _ _ ht2;have nxt:x≠t:=fun e=>by rw[e,ht3]at hx;cases hx
 have nxb:x≠b:=fun e=>by rw[e,hb3]at hx;cases hx
 have ntb:t≠b:=fun e=>by rw[←e,ht2]at fb;cases fb
 have nq0:∀y,¬Own a0.gv y∧¬Hc a0.qv y∧¬Own a0.ov y:=fun y=>by rw[ha0];exact⟨Bu,V8,Bu⟩
 have at0:a0.t=t:=by rw[ha0]
 have ab0:a0.b=b:=by rw[ha0]
 have E4:EV false (σ3.set x (.cells (evC false s0 a0 false))) x a0 s0 false:=⟨Ab,by rw[at0,Ad nxt.symm,ht3,hs0];rfl,by rw[ab0,Ad nxb.symm,hb3,hs0];rfl,by rw[if_neg (by decide),ha0,hs0];exact .none,by rw[ha0,hs0];exact .nil,by rw[ha0,hs0];exact .none,by rw[at0];exact nxt,by rw[ab0];exact nxb,by rw[at0,ab0];exact ntb,fun y ho=>absurd ho (nq0 y).1⟩;have F4:∀y o,σ y=some o→(σ3.set x (.cells (evC false s0 a0 false))) y=some o∧¬Dh x a0 y:=fun y o hy=>by
  have y1:=hsb y o hy;have y3:=hs3 _ _ (hs2 _ _ y1);have nyx:y≠x:=fun e=>by rw[e,hx]at y3;cases y3
  refine⟨by rw[Ad nyx];exact y3,fun hf=>?_⟩;rcases hf with e|e|e|e|e|e
  ·exact nyx e
  ·rw[e,at0,ft]at y1;cases y1
  ·have y2:=hs2 _ _ y1
   rw[e,ab0,fb]at y2;cases y2
  ·exact(nq0 y).1 e
  ·exact(nq0 y).2.1 e
  ·exact(nq0 y).2.2 e
 have m0:s0.me=me:=by rw[hs0];rfl
 have r0:s0.rules=rules:=by rw[hs0];rfl
 generalize σ3.set x (.cells (evC false s0 a0 false))=σ4 at E4 F4⊢;clear hx nxt nxb ntb nq0 at0 ab0 ht3 hb3 hs3 fb ht2 hs2 ft hsb hcells;have hx4:=E4.cx;simp only[go_sem,Aa,hx4,r0,G0];refine⟨fun m fr σ'=>∃(i:Nat) (a':EA) (s':ES),m=rules.length-i∧i≤rules.length∧s'=zerS me rules i s0∧SOk (2*i) s'∧EV false σ' x a' s' false∧(∀y o,σ y=some o→σ' y=some o∧¬Dh x a' y)∧fr 0=str me∧fr 16=ptr x∧fr 64= .sl 11 (rlC rules)∧fr 65=int rules.length∧fr 66=int i,⟨_,0,a0,s0,rfl,by omega,rfl,O0,E4,F4,f0,rfl,rfl,rfl,rfl⟩,?_⟩;clear E4 F4 f0 f1 f2 f3 f25 f26 f27 hx4 O0;rintro m fr σ1 ⟨i,a',s',rfl,hi,hs',hO,hE,hF,f0,f16,f64,f65,f66⟩;simp only[go_sem,f65,f66];refine aIf_by (fun hlt=>?_) (fun hlt=>?_)
 case' refine_2=>
  have ei:i=rules.length:=by omega
  rw[ei]at hs';simp only[go_sem,Aa,f16];exact Ac (r:=.tup [ptr x,int 0]) rfl (.inr ⟨hnm,hgood,hlim.1,hlim.2,x,a',rfl,by rw[show newS me names lim rules=s' by rw[hs',hs0];rfl];exact hE,hF⟩)
 have hil:i<rules.length:=by omega
 obtain⟨r,hrr⟩:∃r,r=rules[i]:=⟨_,rfl⟩;have hr4:=hr _ (List.getElem_mem hil);rw[←hrr]at hr4;have rg:(rlC rules).getD i []=r.cs:=by rw[hrr];exact Jz hil
 have hgr:rules.getD i rlZ=r:=by rw[Of hil,hrr]
 have K':SK s0 s':=by rw[hs'];exact Nk _ _ _ _
 have lcl:=Jv r.bo;have nx:=A2 i (by omega);simp only[go_sem,Aa,f64,f66,rg,G0];refine⟨by omega,Ctx.nil.alloc fun p σ2 c2=>?_⟩;obtain⟨σ3,e3,c3⟩:=c2.abs 0 rfl (.cells r.cs);have hp:σ3 p=some (.cells r.cs):=c3.g0;have np:¬Dh x a' p:=fun hf=>by
  obtain⟨o,ho⟩:=El hE hf;have:=c2.f0;rw[ho]at this;cases this
 have hE:=hE.more c3.sub;have hF:∀y o,σ y=some o→σ3 y=some o∧¬Dh x a' y:=fun y o hy=>⟨c3.sub _ _ (hF y o hy).1,(hF y o hy).2⟩;simp only[go_sem,Aa,c2.g0,e3,hp,lcl];clear e3 c3 c2;have es:=Nl (me:=me) (rules:=rules) (k:=i) (s:=s0);rw[hgr,←hs']at es;by_cases hbo:r.bo.length=0
 case neg=>
  rw[if_neg hbo]at es;have d1:=decide_eq_false (show¬(r.bo.length:Int)=0 by omega);simp only[go_sem,Aa,d1,f66,nx];exact⟨rules.length-(i+1),by omega,i+1,a',s',rfl,by omega,es.symm,hO.le (by omega),hE,hF,f0,f16,f64,f65,rfl⟩
 rw[if_pos hbo]at es;have d1:=decide_eq_true (show(r.bo.length:Int)=0 by omega);simp only[go_sem,Aa,d1,f0,hp];have hz1:=Vq (me:=me) (j:= -1) (f:=faZ) (T:=[]) hbo;have zsm:faZ.Sm:=by show([]:List Cn).length≤_;simp
 refine(AT.weak (args:=[.agg r.cs,str me,int (-1),.agg [str emp,str emp,str emp,Ax],Ax]) (Pn r me (-1) faZ [] hr4.1 zsm (by simp) (fun y hy=>by cases hy) (by omega)) (vws_same (vws_same (vws_same (vws_cons (.agg [str emp,str emp,str emp,Ax] faZ.cs rfl (show VWs σ3 σ3 [str emp,str emp,str emp,Ax] faZ.cs from vws_same (vws_same (vws_same (vws_cons (.nil 3) Cm)))).2) (vws_cons (.nil 4) Cm)))))).p ?_;have hbm:∀b∈Gb r me (-1) faZ [],b.length=r.bo.length∧∀y∈b,y.Sm:=fun b hb=>Sz zsm (fun y hy=>by cases hy) hb;have hbl:(Gb r me (-1) faZ []).length≤1:=Nat.le_trans Cu (by simp only[List.length_nil];omega);obtain⟨L,hL⟩:∃L,L=Gb r me (-1) faZ []:=⟨_,rfl⟩;rw[←hL]at hbm hbl es⊢;have bcl:(boC L).length=L.length:=by simp[boC]
 have OK0:SOk (2*i+2*0) s':=hO.le (by omega);simp only[go_sem,Aa,bcl];refine⟨fun m fr σ'=>∃(k:Nat) (a':EA) (s2:ES),m=L.length-k∧k≤L.length∧s2=bdS i (L.take k) s'∧SOk (2*i+2*k) s2∧EV false σ' x a' s2 false∧(∀y o,σ y=some o→σ' y=some o∧¬Dh x a' y)∧fr 0=str me∧fr 16=ptr x∧fr 17=int i∧fr 64= .sl 11 (rlC rules)∧fr 65=int rules.length∧fr 66=int i∧fr 78= .sl 1 (boC L)∧fr 79=int L.length∧fr 80=int k,⟨_,0,a',s',rfl,by omega,rfl,OK0,hE,hF,f0,f16,rfl,f64,f65,f66,rfl,rfl,rfl⟩,?_⟩;clear OK0 hE hF f0 f16 f64 f65 f66 hp np;rintro m fr σ2 ⟨k,a2,s2,rfl,hk,hs2,hO2,hE,hF,f0,f16,f17,f64,f65,f66,f78,f79,f80⟩;simp only[go_sem,f79,f80];refine aIf_by (fun hlt=>?_) (fun hlt=>?_)
 case' refine_2=>
  have ek:k=L.length:=by omega
  rw[ek,List.take_length,←es]at hs2;simp only[go_sem,Aa,f66,nx];exact⟨rules.length-(i+1),by omega,i+1,a2,s2,rfl,by omega,hs2,hO2.le (by omega),hE,hF,f0,f16,f64,f65,rfl⟩
 have hkl:k<L.length:=by omega
 have hb:=hbm _ (List.getElem_mem hkl);have K2:SK s0 s2:=by rw[hs2];exact K'.trans (Is _ _ _)
 have rl2:s2.rules=rules:=K2.rules.trans r0;have hil2:i<s2.rules.length:=by rw[rl2];exact hil
 have hri:s2.rules[i]=r:=by rw[hrr];exact List.getElem_of_eq rl2 hil2
 simp only[go_sem,Aa,f16,f17,f78,f80,Sy hkl,bcl];refine⟨by omega,(Vr hE hO2 (by omega) i hil2 L[k] (by rw[hri];exact hb.1) hb.2).mono ?_⟩;rintro _ σ3 ⟨a3,E3,G3⟩;have O3:SOk (2*i+2*(k+1)) (H6 s2 i L[k]):=Xm hO2 i (by omega) hb.2;simp only[go_sem,Aa,f80,A2 k (by omega)];exact⟨L.length-(k+1),by omega,k+1,a3,_,rfl,by omega,by rw[Ur _ hkl,hs2],O3,E3,fun y o hy=>G3 y o (hF y o hy).1 (hF y o hy).2,f0,f16,f17,f64,f65,f66,f78,f79,rfl⟩
end
theorem Ah9{B:List De}{base:List Fa}{s:List Fa×Bool}{d:De}(hd:d∈B)(h:LyF B base s.1):LyF B base (Ft s d).1:=by
 unfold Ft
 repeat' split
 ·exact h
 ·exact h.step hd
 ·exact h
theorem Aah{B:List De}{base:List Fa}:∀(l:List De) (s:List Fa×Bool),(∀d∈l,d∈B)→LyF B base s.1→LyF B base (l.foldl Ft s).1
 | [],s,_,h=>h
 |d::l,s,hl,h=>Aah l _ (fun e he=>hl e (List.mem_cons_of_mem _ he)) (Ah9 (hl d (by simp)) h)
theorem Ady{B:List De}{base:List Fa}:∀(n:Nat) (out:List Fa),LyF B base out→LyF B base (Tc B n out)
 |0,out,h=>h
 |n+1,out,h=>by
  have h1:LyF B base (rnd B out).1:=Aah B (out,false) (fun d hd=>hd) h;unfold Tc;split
  ·exact Ady n _ h1
  ·exact h1
theorem Pr(B:List De)(base:List Fa):LyF B base (Fe B base):=Ady _ _ ⟨C8 Ap .nil,fun x hx=>by
 rw[C7 Ap]at hx;simp at hx;exact .inl hx⟩
def Q0(s:ES):List Fa:=(Fe s.B (s.given.filter fun g=>decide (g∈s.T))).filter fun y=>decide (y∈s.T)
section
variable{σ:St}{x p:Nat}{a:EA}{s:ES}{n:Nat}
theorem Ado(h:EV false σ x a s false)(hs:SOk n s)(hp:σ p=some (.cells [ptr x]))(f:Fa)(hf:f.Sm):AT Tryz.prog 131 [.agg f.cs,ptr p] σ fun r σ'=>r=boo (!decide (f∈s.T))∧σ'=σ:=by
 refine AT.ob Tryz.func131 rfl ?_;simp only[go_sem];refine Ctx.nil.alloc fun q σ1 c1=>?_;have h1:=h.more c1.sub;have hx1:=h1.cx;have hq:=c1.g0;have hp1:=c1.sub _ _ hp;have ht1:TB σ1 a.t s.T s.lim:=h1.ct;refine Ag [.rd 0 true,.rd 1 false,.rd 2 false,.rd 3 true,.rd 4 true,.ef 5 [],.rd 6 false,.rd 7 false] ?_;simp only[go_sem,hp1,hq,hx1];refine(Oi ht1 hs.tok f hf).p ?_;simp only[go_sem];exact Ae (r:=boo (!decide (f∈s.T))) rfl _ σ (Ao c1.sub) ⟨rfl,rfl⟩
theorem Vl(h:EV false σ x a s false)(hs:SOk n s)(hn:n≤800000000000)(w:AV):AT Tryz.prog 76 [ptr x,w] σ fun r σ'=>r= .sl 4 (faC (Q0 s))∧σ'=σ:=by
 have hm:AT Tryz.prog 76 [ptr x,w] σ fun r σ'=>LAt 4 σ' r (faC (Q0 s))∧Cz σ σ' r:=by
  refine AT.ob Tryz.func76 rfl ?_;simp only[go_sem];refine Ctx.nil.alloc fun p σ1 c1=>?_;have hp:=c1.g0;have h1:=h.more c1.sub;have hx1:=h1.cx;have hgl:=hs.gl;have hbk:=hs.bok (by omega);have hR:Rd 4 σ1 a.gv (faC s.given):=.of h1.lg;have s1:=c1.sub;simp only[go_sem,hp,hx1,hR.len,Am];refine⟨fun m fr σ'=>∃(i:Nat) (lv:AV),m=s.given.length-i∧i≤s.given.length∧LAt 4 σ' lv (faC ((s.given.take i).filter fun g=>decide (g∈s.T)))∧Cz σ1 σ' lv∧fr 2=ptr p∧fr 5=lv∧fr 12=a.gv∧fr 13=int s.given.length∧fr 14=int i,⟨_,0,Ax,rfl,by omega,.none,.nil,rfl,rfl,rfl,rfl,rfl⟩,?_⟩;rintro m fr σ2 ⟨i,lv,rfl,hi,hL,hG,f2,f5,f12,f13,f14⟩;have hR2:=hR.keep hG.sub;have h2:=h1.more hG.sub;have hp2:=hG.sub _ _ hp;have hx2:=h2.cx;simp only[go_sem,f13,f14];refine aIf_by (fun hlt=>?_) (fun hlt=>?_)
  ·have hil:i<s.given.length:=by omega
   have hsm:=hs.gs _ (List.getElem_mem hil);simp only[go_sem,Aa,f12,f14];refine hR2.elem (by omega) (by rw[Am];omega) fun e0 he0=>?_;simp only[go_sem,Aa];refine he0.load (by decide) (by rw[Int.toNat_natCast,Bc hil];exact Nat.le_refl 4) ?_;simp only[go_sem,Aa,Bc hil];refine Ctx.nil.alloc fun q σ3 c3=>?_;obtain⟨σ4,e4,c4⟩:=c3.abs 0 rfl (.cells s.given[i].cs);have hq:σ4 q=some (.cells s.given[i].cs):=c4.g0;have h4:=h2.more c4.sub;have hx4:=h4.cx;have hp4:=c4.sub _ _ hp2;have L4:LAt 4 σ4 lv _:=hL.keep fun y o hy _=>c4.sub y o hy;have G4:Cz σ1 σ4 lv:=fun y o hy=>⟨c4.sub _ _ (hG y o hy).1,(hG y o hy).2⟩;have ht4:TB σ4 a.t s.T s.lim:=h4.ct;simp only[go_sem,Aa,c3.g0,e4];clear e4 c4 c3 he0;refine Ag [.rd 0 true,.rd 1 false,.rd 2 false,.rd 3 true,.rd 4 true,.ef 5 []] ?_;simp only[go_sem,Aa,f2,hp4,hx4,hq];refine(Oi ht4 hs.tok s.given[i] hsm).p ?_;have et:=Wr (p:=fun g=>decide (g∈s.T)) hil;have nx:=A2 i (by omega);by_cases hm:s.given[i]∈s.T
   ·rw[if_pos (decide_eq_true hm)]at et
    simp only[go_sem,Aa,decide_eq_true hm,f5,hq];have tl:((s.given.take i).filter fun g=>decide (g∈s.T)).length≤s.given.length:=Adt;refine As (ys:=[s.given[i].cs]) rfl (by decide) (by decide) (by decide) (L4.app (by rw[Am];simp only[List.length_cons,List.length_nil];omega) fun lv' σ5 hL5 hs5=>?_);have e5:faC ((s.given.take i).filter fun g=>decide (g∈s.T))++[s.given[i].cs]=faC ((s.given.take (i+1)).filter fun g=>decide (g∈s.T)):=by rw[et];simp[faC]
    rw[e5]at hL5;have G5:=G4.step hs5;simp only[go_sem,Aa,f14,nx];exact⟨s.given.length-(i+1),by omega,i+1,lv',rfl,by omega,hL5,G5,f2,rfl,f12,f13,rfl⟩
   ·rw[if_neg (by simpa using hm),List.append_nil]at et
    simp only[go_sem,Aa,decide_eq_false hm,f14,nx];exact⟨s.given.length-(i+1),by omega,i+1,lv,rfl,by omega,by rw[et];exact L4,G4,f2,f5,f12,f13,rfl⟩
  ·rw[List.take_of_length_le (by omega)]at hL
   obtain⟨bs,hbs⟩:∃bs,bs=s.given.filter fun g=>decide (g∈s.T):=⟨_,rfl⟩;have hbl:bs.length≤s.given.length:=by rw[hbs];exact List.length_filter_le _ _
   have hbm:∀y∈bs,y.Sm:=fun y hy=>hs.gs y (by rw[hbs]at hy;exact(List.mem_filter.1 hy).1);have eN:Q0 s=(Fe s.B bs).filter fun y=>decide (y∈s.T):=by rw[hbs];rfl
   rw[←hbs]at hL;have ly:=Pr s.B bs;have hb2:BK σ2 a.b s.B:=h2.cb;simp only[go_sem,Aa,f2,hp2,hx2,f5];refine(Xn hb2 hbk bs (.of hL) (by omega) hbm).mono ?_;rintro v σ3 ⟨k1,k2,k3⟩;have hbl':=hs.bl;have hlen:(Fe s.B bs).length≤1000000000000:=by have:=ly.len;omega
   simp only[go_sem,Aa];simp only[Dx,B7];simp only[go_sem,Aa,f2];refine(Y9 (β:=σ1) (Fe s.B bs) (fun y=>!decide (y∈s.T)) k1 hlen (fun y o hy=>k2 _ _ (hG.sub _ _ hy)) (fun y hy=>Cj hG.sub (k3 y hy)) fun σ' hs' y hy=>Ado (h1.more hs') hs (hs' _ _ hp) y ?_).mono ?_
   ·rcases ly.own y hy with hy|⟨d,hd,e⟩
    ·exact hbm y hy
    ·rw[←e];exact(hs.bs d hd).1
   rintro r σ4 ⟨q1,q2⟩;simp only[go_sem,Aa];simp only[Bool.not_not]at q1;exact Ac (r:=r) rfl ⟨by rw[eN];exact q1,fun y o hy=>q2 y o (s1 y o hy)⟩
 exact hm.post (by kernel_rfl) fun r σ' ⟨h1,h2⟩=>⟨_,_,H9 h1 h2,rfl,rfl⟩
end
def Iv(p:ES×List Fa)(d:De):ES×List Fa:=({p.1 with B:=p.1.B.filter fun y=>!decide (y=d)},if d.hd.at'≠p.1.me∧(ofF (p.1.B.filter fun y=>!decide (y=d)) d.hd).length=0 then p.2++[d.hd]else p.2)
def takS(p:ES×List Fa)(g:Fa):ES×List Fa:=({p.1 with T:=(Mi p.1.T g).1},p.2)
def Qz(p:ES×List Fa)(g:Fa):ES×List Fa:=(useF p.1.B g).foldl Iv (takS p g)
def Np(s:ES):List Fa:=(Cc A4 [] s.T).filter fun y=>!decide (y∈Q0 s)
def L5(s:ES)(f:Fa):ES:={s with given:=(Cc A4 [] s.given).filter fun y=>!decide (y∈[f])}
def delS(s:ES)(f:Fa):Int×ES:=if f∈s.given then
  (0,{((Np (L5 s f)).foldl Qz (L5 s f,[])).1 with outs:=((Np (L5 s f)).foldl Qz (L5 s f,[])).1.outs++(Cc A4 [] ((Np (L5 s f)).foldl Qz (L5 s f,[])).2).map fun y=>(y,true)})
 else(152,s)
structure GOk(n:Nat)(p:ES×List Fa):Prop where
 ok:SOk n p.1
 le:p.1.B.length+p.1.outs.length+p.2.length≤n
 sm:∀y∈p.2,y.Sm
theorem Adv{α:Type}[DecidableEq α]{d:α}:∀{l:List α},d∈l→(l.filter fun y=>!decide (y=d)).length+1≤l.length
 |a::l,h=>by
  by_cases e:a=d
  ·have:=List.length_filter_le (fun y=>!decide (y=d)) l
   simp only[List.filter_cons,decide_eq_true e,Bool.not_true,List.length_cons];simp only[Bool.false_eq_true,if_false];omega
  ·have h':d∈l:=(List.mem_cons.1 h).resolve_left fun e'=>e e'.symm
   have:=Adv h';simp only[List.filter_cons,decide_eq_false e,Bool.not_false,if_true,List.length_cons];omega
theorem Akg{n:Nat}{p:ES×List Fa}{d:De}(h:GOk n p)(hd:d∈p.1.B):GOk n (Iv p d):=by
 have h1:=Adv hd;have h2:=h.le;have hds:=h.ok.bs d hd;refine⟨{h.ok with br:=h.ok.br.filter _,bo:=?_,bs:=fun e he=>h.ok.bs e (List.mem_filter.1 he).1},?_,fun y hy=>?_⟩
 ·show(p.1.B.filter fun y=>!decide (y=d)).length+p.1.outs.length≤n
  omega
 ·show(p.1.B.filter fun y=>!decide (y=d)).length+p.1.outs.length+(Iv p d).2.length≤n
  unfold Iv;simp only;split
  ·rw[List.length_append];simp only[List.length_cons,List.length_nil];omega
  ·omega
 ·unfold Iv at hy
  simp only at hy;split at hy
  ·rcases List.mem_append.1 hy with hy|hy
   ·exact h.sm y hy
   ·rw[List.mem_singleton.1 hy];exact hds.1
  ·exact h.sm y hy
theorem Ak6{T:List Fa}{lim:Int}{g:Fa}(h:TOk T lim):TOk (Mi T g).1 lim∧(Mi T g).1.length≤T.length:=by
 unfold Mi;split
 ·have:=List.length_filter_le (fun y=>!decide (y=g)) T
  have hl:=h.len;exact⟨⟨h.rises.filter _,by show(T.filter fun y=>!decide (y=g)).length≤1000000;omega,fun y hy=>h.sm y (List.mem_filter.1 hy).1,h.lim⟩,this⟩
 ·exact⟨h,Nat.le_refl _⟩
theorem Alg{n:Nat}{p:ES×List Fa}{g:Fa}(h:GOk n p):GOk n (takS p g):=by
 have:=Ak6 (g:=g) h.ok.tok;have h2:=h.ok.tl;exact⟨{h.ok with tok:=this.1,tl:=(by show((Mi p.1.T g).1.length:Int)≤p.1.lim;omega)},h.le,h.sm⟩
theorem Ahw{n:Nat}{s:ES}{f:Fa}(h:SOk n s):SOk n (L5 s f):=by
 have h1:=List.length_filter_le (fun y=>!decide (y∈[f])) (Cc A4 [] s.given);have h2:=Cu (c:=A4) (s:=[]) (l:=s.given);have h3:=h.gl;simp only[List.length_nil]at h2
 exact{h with gr:=(C8 Ap .nil).filter _,gl:=(by show((Cc A4 [] s.given).filter fun y=>!decide (y∈[f])).length≤1000000;omega),gs:=fun y hy=>h.gs y (by
  have:=(List.mem_filter.1 hy).1;rw[C7 Ap]at this;simpa using this)}
theorem Rm{α β:Type}{f:β→α→β}{l:List α}{k:Nat}(z:β)(h:k<l.length):(l.take (k+1)).foldl f z=f ((l.take k).foldl f z) l[k]:=by
 rw[List.take_add_one,List.getElem?_eq_getElem h];simp only[Option.toList,List.foldl_append,List.foldl_cons,List.foldl_nil]
theorem Af6{p:ES×List Fa}{d e:De}(he:e∈p.1.B)(hn:e≠d):e∈(Iv p d).1.B:=List.mem_filter.2 ⟨he,by simpa using hn⟩
theorem Va{e:De}:∀(l:List De) (p:ES×List Fa),e∈p.1.B→e∉l→e∈(l.foldl Iv p).1.B
 | [],p,h,_=>h
 |d::l,p,h,hn=>Va l (Iv p d) (Af6 h fun e=>hn (by simp[e])) fun h=>hn (List.mem_cons_of_mem _ h)
theorem Ahz{α:Type}{l:List α}(h:l.Nodup){k:Nat}(hk:k<l.length):l[k]∉l.take k:=fun hm=>by
 rw[List.mem_take_iff_getElem]at hm;obtain⟨i,hi,e⟩:=hm;exact List.pairwise_iff_getElem.1 h i k (by omega) hk (by omega) e
end Go.Proofs.YtmifmncabejffaaGreat
