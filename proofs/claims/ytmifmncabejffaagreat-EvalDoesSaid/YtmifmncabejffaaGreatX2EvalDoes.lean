/-
  Contracts of the functions that the statement reaches, and the plain laws of what they reckon.
  Conditions: none.
-/
import Derived.Test.YtmifmncabejffaaGreatV1EvalDoes
import Derived.Test.YtmifmncabejffaaGreatV2EvalDoes
import Derived.Test.YtmifmncabejffaaGreatV3EvalDoes
import Derived.Test.YtmifmncabejffaaGreatX1EvalDoes
set_option linter.unusedVariables false
set_option linter.unusedSimpArgs false
set_option linter.unusedSectionVars false
set_option maxRecDepth 100000
namespace Go.Proofs.YtmifmncabejffaaGreat
open Go Go.Av
namespace BF
section
variable{σ:St}
def Found(l:List Fa)(f:Fa)(r:AV):Prop:=∃k:Nat,r= .tup [int k,boo (decide (f∈l))]∧k≤l.length∧(∀i (hi:i<k) (hl:i<l.length),Ar l[i] f<0)∧∀hk:k<l.length,¬Ar l[k] f<0
theorem Km{l:List Fa}{f:Fa}{k:Nat}(hr:C4 Ar l)(hk:k≤l.length)(h1:∀h:0<k,Ar (l[k-1]'(by omega)) f<0)(h2:∀h:k<l.length,¬Ar l[k] f<0){b:Bool}(hb:b=true↔∃h:k<l.length,Ar l[k] f=0):Found l f (.tup [int k,boo b]):=by
 have hr':=List.pairwise_iff_getElem.1 hr;have a1:∀i (hi:i<k) (hl:i<l.length),Ar l[i] f<0:=fun i hi hl=>by
  by_cases e:i=k-1
  ·subst e;exact h1 (by omega)
  ·exact An.trans _ _ _ (hr' i (k-1) hl (by omega) (by omega)) (h1 (by omega))
 refine⟨k,?_,hk,a1,h2⟩;have:b=decide (f∈l):=by
  rw[Bool.eq_iff_iff,hb,decide_eq_true_iff];constructor
  ·rintro⟨h,e⟩
   rw[←(An.zero _ _).1 e];exact List.getElem_mem h
  ·intro hm
   obtain⟨i,hi,e⟩:=List.getElem_of_mem hm;have hik:¬i<k:=fun h=>by
    have:=a1 i h hi;rw[e,An.self]at this;omega
   have hkl:k<l.length:=by omega
   by_cases e2:i=k
   ·subst e2
    exact⟨hi,by rw[e];exact An.self f⟩
   ·have:=hr' k i hkl hi (by omega)
    rw[e]at this;exact absurd this (h2 hkl)
 rw[this]
theorem Z7{i j:Nat}(h:i+j<9223372036854775807):IntKind.i64.wrap ((IntKind.u64.wrap (IntKind.i64.wrap ((i:Int)+j))).fdiv (2^min 1 64))=(((i+j)/2:Nat):Int):=by
 rw[Ah (x:=(i:Int)+j) (by omega)];have e1:IntKind.u64.wrap ((i:Int)+j)=(i:Int)+j:=by
  simp[IntKind.wrap,IntKind.signed,IntKind.bits];omega
 have e2:(2:Int)^min 1 64=2:=rfl;rw[e1,e2,show((i:Int)+j).fdiv 2=(((i+j)/2:Nat):Int)from ?_]
 ·exact Ah (by omega)
 ·rw[Int.fdiv_eq_ediv_of_nonneg _ (by omega)]
  omega
theorem bsearch_at{lv:AV}(l:List Fa)(f:Fa)(hl:l.length≤4000000000000)(hs:∀y∈l,y.Sm)(hf:f.Sm)(hr:C4 Ar l)(h:Rd 4 σ lv (faC l)):AT Tryz.prog 177 [lv,.agg f.cs,fnv 112] σ fun r σ'=>Found l f r∧σ'=σ:=by
 refine AT.ob Tryz.func177 rfl ?_;simp only[go_sem];refine Ctx.nil.alloc fun p σ1 c1=>?_;have hp:=c1.g0;have hsub:=c1.sub;have h1:=h.keep hsub;clear c1;simp only[go_sem,Aa,h1.len,Am];refine⟨fun m fr σ'=>∃i j:Nat,m=j-i∧i≤j∧j≤l.length∧(∀h:0<i,∀h2:i-1<l.length,Ar l[i-1] f<0)∧(∀h:j<l.length,¬Ar l[j] f<0)∧σ'=σ1∧fr 0=lv∧fr 2=fnv 112∧fr 4=ptr p∧fr 8=int l.length∧fr 9=int i∧fr 10=int j,⟨_,0,l.length,rfl,by omega,by omega,fun h=>by omega,fun h=>by omega,rfl,rfl,rfl,rfl,rfl,rfl,rfl⟩,?_⟩;rintro m fr σ1 ⟨i,j,rfl,hij,hjl,hI,hJ,rfl,f0,f2,f4,f8,f9,f10⟩;simp only[go_sem,f9,f10];refine aIf_by (fun hlt=>?_) (fun hlt=>?_)
 ·have hij':i<j:=by omega
  have hm:=Z7 (i:=i) (j:=j) (by omega);obtain⟨q,hq⟩:∃q,q=(i+j)/2:=⟨_,rfl⟩;rw[←hq]at hm;have hql:q<l.length:=by omega
  simp only[go_sem,Aa,f9,f10,hm];refine Ae [.rd 0 false,.rd 1 false,.rd 2 false,.rd 3 false,.rd 4 true,.rd 5 true,.ef 6 [],.rd 7 false] ?_;simp only[go_sem,Aa,f0,f2,f4];refine h1.elem (by omega) (by rw[Am];omega) fun e he=>?_;simp only[go_sem,Aa];refine he.load (by decide) (by rw[Int.toNat_natCast,Au hql];exact Nat.le_refl _) ?_;simp only[go_sem,Aa,Au hql,hp,f4];refine(Ih l[q] f (hs _ (List.getElem_mem hql)) hf).mono ?_;rintro _ σ1 ⟨rfl,rfl⟩;simp only[go_sem,Aa];refine aIf_by (fun hc=>?_) (fun hc=>?_)
  ·simp only[go_sem,Aa,f0,f2,f4,f8,f9,f10,Ai (show q<9223372036854775807 by omega)]
   refine⟨j-(q+1),by omega,q+1,j,rfl,by omega,hjl,fun _ h2=>?_,hJ,?_⟩
   ·exact hc
   ·(and_intros<;>first|assumption|rfl|omega)
  ·simp only[go_sem,Aa,f0,f2,f4,f8,f9,f10]
   refine⟨q-i,by omega,i,q,rfl,by omega,by omega,hI,fun _=>hc,?_⟩
   (and_intros<;>first|assumption|rfl|omega)
 ·have e:i=j:=by omega
  subst e;simp only[go_sem,Aa,f8,f9];refine Ae [.rd 0 false,.rd 1 false,.rd 2 false,.rd 3 false,.rd 4 false,.rd 5 false,.rd 6 false,.rd 7 false,.rd 8 false,.rd 9 true,.rd 10 true,.ef 11 [],.rd 12 false,.rd 13 false,.rd 14 false,.rd 15 false] ?_;by_cases hil:i<l.length
  ·have d1:=decide_eq_true (show(i:Int)<l.length by omega)
   simp only[go_sem,Aa,f0,f2,f4,f8,f9,d1];refine h1.elem (by omega) (by rw[Am];omega) fun e he=>?_;simp only[go_sem,Aa];refine he.load (by decide) (by rw[Int.toNat_natCast,Au hil];exact Nat.le_refl _) ?_;simp only[go_sem,Aa,Au hil,hp,f4];refine(Ih l[i] f (hs _ (List.getElem_mem hil)) hf).mono ?_;rintro _ σ1 ⟨rfl,rfl⟩;simp only[go_sem,Aa,f9];refine Af (r:=.tup [int i,boo (decide (Ar l[i] f=0))]) rfl _ σ (Aq hsub) ⟨Km hr hjl (fun h=>hI h (by omega)) hJ ?_,rfl⟩;rw[decide_eq_true_iff];exact⟨fun h=>⟨hil,h⟩,fun⟨_,h⟩=>h⟩
  ·have d1:=decide_eq_false (show¬(i:Int)<l.length by omega)
   simp only[go_sem,Aa,f8,f9,d1];refine Af (r:=.tup [int i,boo false]) rfl _ σ (Aq hsub) ⟨Km hr hjl (fun h=>hI h (by omega)) hJ ?_,rfl⟩;exact⟨fun h=>(by cases h),fun⟨h,_⟩=>absurd h hil⟩
theorem erase_at{T:List Fa}{k:Nat}(hr:C4 Ar T){f:Fa}(hk:k≤T.length)(h1:∀i (hi:i<k) (hl:i<T.length),Ar T[i] f<0)(h2:∀hk:k<T.length,¬Ar T[k] f<0)(hm:f∈T):∃h:k<T.length,T[k]=f∧T.take k++T.drop (k+1)=T.filter fun x=>!decide (x=f):=by
 obtain⟨i,hi,e⟩:=List.getElem_of_mem hm;have hik:¬i<k:=fun h=>by
  have:=h1 i h hi;rw[e,An.self]at this;omega
 have hkl:k<T.length:=by omega
 have hr':=List.pairwise_iff_getElem.1 hr;have hki:k=i:=by
  rcases Nat.lt_or_ge k i with h|h
  ·have:=hr' k i hkl hi h
   rw[e]at this;exact absurd this (h2 hkl)
  ·omega
 subst hki;refine⟨hkl,e,?_⟩;have hne:∀j (hj:j<T.length),j≠k→T[j]≠f:=fun j hj hjk hf=>by
  rcases Nat.lt_or_gt_of_ne hjk with h|h
  ·have:=hr' j k hj hkl h
   rw[e,hf,An.self]at this;omega
  ·have:=hr' k j hkl hj h
   rw[e,hf,An.self]at this;omega
 conv=>rhs;rw[←List.take_append_drop k T]
 rw[List.filter_append,List.drop_eq_getElem_cons hkl,List.filter_cons_of_neg (by simp[e])]
 congr 1
 ·refine(List.filter_eq_self.2 fun x hx=>?_).symm
  obtain⟨j,hj,rfl⟩:=List.getElem_of_mem hx;rw[List.length_take]at hj;rw[List.getElem_take];simpa using hne j (by omega) (by omega)
 ·refine(List.filter_eq_self.2 fun x hx=>?_).symm
  obtain⟨j,hj,rfl⟩:=List.getElem_of_mem hx;rw[List.length_drop]at hj;rw[List.getElem_drop];simpa using hne (k+1+j) (by omega) (by omega)
end
end BF
theorem spl1{α:Type}{A R:List α}{x z:α}{i:Nat}(h:A.length=i):List.take i (A++z::R)++[x]++List.drop (i+1) (A++z::R)=A++x::R:=by
 subst h;simp[List.drop_append]
theorem spl2{α:Type}{A B R:List α}{x:α}{i:Nat}(h:A.length=i)(hr:R.length=B.length):List.take (i+1) (A++x::R)++B++List.drop (i+1+B.length) (A++x::R)=A++x::B:=by
 subst h;rw[List.drop_of_length_le (by simp;omega)];have:List.take (A.length+1) (A++x::R)=A++[x]:=by
  rw[List.take_append,List.take_of_length_le (by omega)];simp
 rw[this];simp
theorem spl3{α:Type}{A B:List α}{x y:α}{i:Nat}(h:A.length=i):List.take i (List.take (i+1) (A++y::B)++(y::B)++List.drop (i+1+(y::B).length) (A++y::B))++[x]++List.drop (i+1) (List.take (i+1) (A++y::B)++(y::B)++List.drop (i+1+(y::B).length) (A++y::B))=A++x::y::B:=by
 subst h;rw[List.drop_of_length_le (l:=A++y::B) (by simp)];have:List.take (A.length+1) (A++y::B)=A++[y]:=by
  rw[List.take_append,List.take_of_length_le (by omega)];simp
 rw[this];simp[List.drop_append]
section
variable{ag byt:Bool}{sz q eby b n c l h:Nat}{zr ez:List Value}{ik:IntKind}{σ:St}{K:AV→Prop}{k:AV→St→Prop}
theorem Fd{j:Int}(hj:j=h)(hn:h≤c)(hk:K (slv b h c)):aSli (some ⟨ag,sz,zr,.sl q eby ez byt⟩) σ (slv b n c) .none (some (.v (.int ik j))) .none K:=by
 subst hj;refine .inl ⟨b,0,n,c,rfl,0,h,c,rfl,rfl,.inl ⟨rfl,rfl⟩,by omega,by omega,by omega,by omega,?_⟩;have e:Fz (c:Int).toNat (0:Int).toNat 0 q=0:=by
  unfold Fz;split<;>simp
 rw[e];simpa using hk
theorem Dn{j:Int}{p:Nat}(hj:j=l)(hp:p=l*q)(h0:l≤n)(hn:n≤c)(hlc:l<c)(hk:K (.v (.slice (some ⟨b,p,none⟩) (n-l) (c-l)))):aSli (some ⟨ag,sz,zr,.sl q eby ez byt⟩) σ (slv b n c) (some (.v (.int ik j))) .none .none K:=by
 subst hj;exact Bj hp h0 hn hlc hk
theorem Oi{j j':Int}{p:Nat}(hj:j=l)(hj':j'=h)(hp:p=l*q)(h0:l≤h)(hn:h≤c)(hlc:l<c)(hk:K (.v (.slice (some ⟨b,p,none⟩) (h-l) (c-l)))):aSli (some ⟨ag,sz,zr,.sl q eby ez byt⟩) σ (slv b n c) (some (.v (.int ik j))) (some (.v (.int ik j'))) .none K:=by
 subst hj hj' hp;refine .inl ⟨b,0,n,c,rfl,l,h,c,rfl,rfl,.inl ⟨rfl,rfl⟩,by omega,by omega,by omega,by omega,?_⟩;have e:Fz (c:Int).toNat (l:Int).toNat 0 q=l*q:=by
  unfold Fz;rw[if_neg (by simp;omega)];simp
 rw[e];simpa using hk
theorem Ui{j j' j'':Int}{m:Nat}(hj:j=l)(hj':j'=h)(hj'':j''=m)(h0:l≤h)(hn:h≤m)(hm:m≤c)(hk:∀x,K x):aSli (some ⟨ag,sz,zr,.sl q eby ez byt⟩) σ (slv b n c) (some (.v (.int ik j))) (some (.v (.int ik j'))) (some (.v (.int ik j''))) K:=by
 subst hj hj' hj'';exact .inl ⟨b,0,n,c,rfl,l,h,m,rfl,rfl,.inr ⟨by simp,by simp,rfl⟩,by omega,by omega,by omega,by omega,hk _⟩
theorem Gx{s:AV}{m cc cap p:Nat}{es ys:List (List AV)}(hp:p=m*q)(hb:σ b=some (.rows q es false cap))(hq:0<q)(hc:cut q σ s n=some ys)(h1:m≤es.length)(h2:m+ys.length≤cap)
  (hk:k (.v (.int .i64 ys.length)) (σ.set b (.rows q (es.take m++ys++es.drop (m+ys.length)) false cap))):Tf (some ⟨ag,sz,zr,.sl q eby ez byt⟩) σ (.v (.slice (some ⟨b,p,none⟩) n cc)) s k:=
 ⟨hq,es,cap,ys,m,hb,hp,hc,h1,h2,hk⟩
theorem Qn{m n' cc cap p:Nat}{es:List (List AV)}(hp:p=m*q)(hq:0<q)(hb:σ b=some (.rows q es false cap))(hm:m+min n' n≤es.length):cut q σ (.v (.slice (some ⟨b,p,none⟩) n' cc)) n=some ((es.drop m).take (min n' n)):=by
 subst hp;simp only[cut,src,hb,Nat.mul_div_cancel _ hq,Nat.mul_mod_left];rw[if_pos ⟨trivial,trivial,hm⟩]
theorem W2{ag2:Bool}{sz2:Nat}{zr2:List Value}{ik2:IntKind}{es:List (List AV)}{m cap cap':Nat}{frz:Bool}{j:Int}(hj:j=m)(hb:σ b=some (.rows q es frz cap'))(hn:n≤es.length)(hq:0<q)(he:0<eby)(hz:ez.all Value.oneCell'=true)(hm:0<m)(hr:cap<n+m)(hbd:(n+m)*eby≤140737488355328)
  (hk:∀b' c',σ b'=none→n+m≤c'→k (slv b' (n+m) c') (σ.set b' (.rows q (es.take n++List.replicate m (ez.map .v)) false c'))):
  aAppN (some ⟨ag,sz,zr,.sl q eby ez byt⟩) (some ⟨ag2,sz2,zr2,.int ik2⟩) σ (slv b n cap) (.v (.int ik j)) k:=by
 subst hj;refine⟨hq,he,hz,by omega,by omega,by rw[Int.toNat_natCast];exact hbd,es,frz,cap',hb,hn,fun b' c' h1 h2=>?_⟩;rw[Int.toNat_natCast]at h2⊢;exact hk b' c' h1 h2
end
namespace BF
section
variable{σ:St}
theorem clone_at(l:List Fa)(hl:l.length≤1000000000000):AT Tryz.prog 133 [.sl 4 (faC l)] σ fun r σ'=>Ow 4 σ' r (faC l)∧Cd σ σ' r:=by
 refine AT.ob Tryz.func133 rfl ?_;simp only[go_sem];by_cases he:faC l=[]
 ·refine⟨fun h=>absurd he h,fun _ b=>?_⟩
  refine aIf_bool (fun _=>?_) (fun _=>?_)
  ·simp only[go_sem]
   exact Ad (r:=A0) rfl ⟨.inl ⟨he,.inl rfl⟩,.nil⟩
  ·simp only[go_sem]
   refine As (ys:=faC l) (by simp[src]) (by decide) (by decide) (by decide) ?_;rw[he];refine⟨rfl,fun _=>?_,fun h=>absurd rfl h⟩;simp only[go_sem];exact Ad (r:=.fsl 4 []) rfl ⟨.inl ⟨rfl,.inr rfl⟩,fun y p hy=>⟨hy,A1⟩⟩
 ·refine⟨fun _=>?_,fun h=>absurd h he⟩
  refine As (ys:=faC l) (by simp[src]) (by decide) (by decide) (by decide) (Ow.of_app .full he (by rw[Am];simp only[List.length_nil];omega) fun lv σ1 h1 h2 _=>?_);simp only[go_sem];exact Ad (r:=lv) rfl ⟨h1,fun y p hy=>h2 y p hy A1⟩
def Ws(σ:St)(v:AV)(es:List (List AV))(r:AV)(σ':St):Prop:=Ow 4 σ' r es∧∀y o,σ y=some o→¬Own v y→σ' y=some o∧¬Own r y
theorem insert_at{v:AV}(l:List Fa)(f:Fa)(i:Nat)(hi:i≤l.length)(hl:l.length≤1000000000000)(h:Ow 4 σ v (faC l)):AT Tryz.prog 139 [v,int i,.fsl 4 [f.cs]] σ (Ws σ v (faC (l.take i++f::l.drop i))):=by
 refine AT.ob Tryz.func139 rfl ?_;simp only[go_sem];refine h.lat.from (by decide) (by omega) (by rw[Am];omega) fun _ _=>?_;have d1:decide ((1:Int)=0)=false:=rfl;simp only[go_sem,h.lat.len,Am];refine aIf_by (fun hin=>?_) (fun hin=>?_)
 ·have e:i=l.length:=by omega
  subst e;simp only[go_sem];refine As (ys:=[f.cs]) (by rfl) (by decide) (by decide) (by decide) (Ow.of_app h.lat (by simp) (by rw[Am];simp only[List.length_cons,List.length_nil];omega) fun r σ1 h1 h2 _=>?_);simp only[go_sem];refine Ad (r:=r) rfl ⟨?_,h2⟩;rw[show l.take l.length++f::l.drop l.length=l++[f] by simp];rw[show faC l++[f.cs]=faC (l++[f]) by simp[faC]]at h1;exact h1
 ·have hil:i<l.length:=by omega
  rcases h with⟨h0,_⟩|⟨b,cap,rfl,hcap,hb⟩
  ·have:=congrArg List.length h0
   rw[Am,List.length_nil]at this;omega
  have fl:=Am l;rw[fl]at hcap;obtain⟨A,y,B,hA,hL⟩:∃(A:List (List AV)) (y:List AV) (B:List (List AV)),A.length=i∧faC l=A++y::B:=by
   refine⟨(faC l).take i,(faC l)[i]'(by omega),(faC l).drop (i+1),by rw[List.length_take];omega,?_⟩;rw[←List.drop_eq_getElem_cons,List.take_append_drop]
  have hB:B.length=l.length-(i+1):=by
   have:=congrArg List.length hL;rw[fl,List.length_append,List.length_cons]at this;omega
  have hdr:(faC l).drop i=y::B:=by rw[hL,List.drop_append,hA,List.drop_of_length_le (by omega)];simp
  have htk:(faC l).take i=A:=by rw[hL,List.take_append,List.take_of_length_le (by omega),hA];simp
  have fin:A++f.cs::y::B=faC (l.take i++f::l.drop i):=by
   rw[←hdr,←htk];simp[faC,List.map_take,List.map_drop]
  have finl:(faC (l.take i++f::l.drop i)).length=l.length+1:=by simp[faC];omega
  have w1:IntKind.i64.wrap ((l.length:Int)+1)=((l.length+1:Nat):Int):=Ai (by omega);have w2:IntKind.i64.wrap (((l.length+1:Nat):Int)-i)=((l.length+1-i:Nat):Int):=by rw[Ah (by omega)];omega
  have w3:IntKind.i64.wrap ((i:Int)+1)=((i+1:Nat):Int):=Ai (by omega);simp only[go_sem,w1];refine aIf_by (fun hc=>?_) (fun hc=>?_)
  ·
   have hsz:4≤1000:=by decide
   simp only[go_sem,w1,w2];refine Fd (h:=i) rfl (by omega) ?_;simp only[go_sem,w1,w2];refine W2 rfl hb (by rw[fl];omega) (by decide) (by decide) (by decide) (by omega) (by omega) (by omega) fun b' c' hb' hc'=>?_;obtain⟨z,hz⟩:∃z:List AV,z=[Value.string ⟨#[]⟩,.string ⟨#[]⟩,.string ⟨#[]⟩,.slice none 0 0].map AV.v:=⟨_,rfl⟩;have hbb:b≠b':=fun e=>by rw[←e,hb]at hb';cases hb'
   have ez:i+(l.length+1-i)=l.length+1:=by omega
   rw[ez]at hc'⊢;have e0:(faC l).take i++List.replicate (l.length+1-i) z=A++z::List.replicate (l.length-i) z:=by
    rw[htk,show l.length+1-i=(l.length-i)+1 by omega,List.replicate_succ]
   rw[←hz,e0];have el:(A++z::List.replicate (l.length-i) z).length=l.length+1:=by simp;omega
   simp only[go_sem];refine Bj (p:=i*4) rfl (by omega) (by omega) (by omega) ?_;simp only[go_sem];refine Gx (m:=i) (ys:=[f.cs]) rfl Ab (by decide) (by simp[cut];omega) (by rw[el];omega) (by simp only[List.length_cons,List.length_nil];omega) ?_;rw[show List.take i (A++z::List.replicate (l.length-i) z)++[f.cs]++List.drop (i+ [f.cs].length) (A++z::List.replicate (l.length-i) z)=A++f.cs::List.replicate (l.length-i) z from spl1 hA,Cw];have el2:(A++f.cs::List.replicate (l.length-i) z).length=l.length+1:=by simp;omega
   obtain⟨σ2,e2⟩:∃σ2,σ2=σ.set b' (.rows 4 (A++f.cs::List.replicate (l.length-i) z) false c'):=⟨_,rfl⟩;have g1:σ2 b'=some (.rows 4 (A++f.cs::List.replicate (l.length-i) z) false c'):=by rw[e2];exact Ab
   have g2:σ2 b=some (.rows 4 (faC l) false cap):=by rw[e2,Ag hbb];exact hb
   have g3:∀y o,σ y=some o→σ2 y=some o∧y≠b':=fun y o hy=>by
    have:y≠b':=fun e=>by rw[e,hb']at hy;cases hy
    exact⟨by rw[e2,Ag this];exact hy,this⟩
   rw[←e2];clear e2 el;simp only[go_sem];refine Ae [.rd 0 false,.rd 1 false,.rd 2 false,.rd 3 false,.rd 4 true,.rd 5 false,.rd 6 false,.rd 7 true,.ef 8 []] ?_;simp only[go_sem,w3];refine Dn (l:=i+1) (p:=(i+1)*4) rfl rfl (by omega) (by omega) (by omega) ?_;simp only[go_sem];refine Bj (p:=i*4) rfl (by omega) (by omega) (by omega) ?_;simp only[go_sem];refine Gx (m:=i+1) (ys:=y::B) rfl g1 (by decide) ?_ (by omega) (by simp only[List.length_cons];omega) ?_
   ·rw[Qn (m:=i) rfl (by decide) g2 (by rw[fl];omega)]
    rw[List.take_of_length_le (by rw[List.length_drop,fl];omega),hdr]
   simp only[go_sem];refine Ad (r:=slv b' (l.length+1) c') rfl ⟨.inr ⟨b',c',by rw[finl],by rw[finl];omega,?_⟩,fun y o hy hn=>?_⟩
   ·rw[Ab]
    have:=spl2 (x:=f.cs) (B:=y::B) (R:=List.replicate (l.length-i) z) hA (by simp;omega);rw[List.length_cons,fin]at this;rw[this]
   ·obtain⟨h1,h2⟩:=g3 y o hy
    exact⟨by rw[Ag h2];exact h1,fun ho=>h2 (Bw.1 ho)⟩
  ·simp only[go_sem,w1]
   refine Fd (h:=l.length+1) rfl (by omega) ?_;simp only[go_sem,w3];refine Dn (l:=i+1) (p:=(i+1)*4) rfl rfl (by omega) (by omega) (by omega) ?_;simp only[go_sem];refine(Ac0 (P:=Tryz.prog) Tryz.func180 rfl rfl (by kernel_rfl) rfl rfl tk26 hb (by decide) (by decide) (by omega)).mono ?_;rintro _ σ1 ⟨rfl,rfl⟩;simp only[go_sem,Bool.not_false];refine Ae [.rd 0 false,.rd 1 false,.rd 2 false,.rd 3 false,.rd 4 true,.rd 5 false,.rd 6 false,.rd 7 true,.ef 8 []] ?_;simp only[go_sem,w3];refine Dn (l:=i+1) (p:=(i+1)*4) rfl rfl (by omega) (by omega) (by omega) ?_;simp only[go_sem];refine Bj (p:=i*4) rfl (by omega) (by omega) (by omega) ?_;simp only[go_sem];refine Gx (m:=i+1) (ys:=y::B) rfl hb (by decide) ?_ (by omega) (by simp only[List.length_cons];omega) ?_
   ·rw[Qn (m:=i) rfl (by decide) hb (by rw[fl];omega)]
    rw[List.take_of_length_le (by rw[List.length_drop,fl];omega),hdr]
   simp only[go_sem];refine Bj (p:=i*4) rfl (by omega) (by omega) (by omega) ?_;simp only[go_sem];refine Gx (m:=i) (ys:=[f.cs]) rfl Ab (by decide) (by simp[cut];omega) (by simp;omega) (by simp only[List.length_cons,List.length_nil];omega) ?_;simp only[go_sem];refine Ad (r:=slv b (l.length+1) cap) rfl ⟨.inr ⟨b,cap,by rw[finl],by rw[finl];omega,?_⟩,fun y o hy hn=>?_⟩
   ·rw[Ab,←fin,hL]
    have:=spl3 (x:=f.cs) (B:=B) (y:=y) hA;rw[List.length_cons]at this;rw[this]
   ·have hy2:y≠b:=fun e=>hn (Bw.2 e)
    exact⟨by rw[Ag hy2];exact hy,fun ho=>hy2 (Bw.1 ho)⟩
theorem delete_at{v:AV}(l:List Fa)(i:Nat)(hi:i<l.length)(hl:l.length≤1000000000000)(h:Ow 4 σ v (faC l)):AT Tryz.prog 132 [v,int i,int (i+1:Nat)] σ (Ws σ v (faC (l.take i++l.drop (i+1)))):=by
 refine AT.ob Tryz.func132 rfl ?_;have fl:=Am l;rcases h with⟨h0,_⟩|⟨b,cap,rfl,hcap,hb⟩
 ·have:=congrArg List.length h0
  rw[Am,List.length_nil]at this;omega
 have hL:LAt 4 σ (slv b (faC l).length cap) (faC l):=.inr (.inr ⟨b,cap,rfl,hcap,hb⟩);rw[fl]at hcap hL⊢;have d1:decide ((i:Int)=((i+1:Nat):Int))=false:=decide_eq_false (by omega);simp only[go_sem];refine Ui (l:=i) (h:=i+1) (m:=l.length) rfl rfl rfl (by omega) (by omega) (by omega) fun _=>?_;simp only[go_sem,d1];refine Ae [.rd 0 false,.rd 1 false,.rd 2 true,.rd 3 false,.rd 4 false,.rd 5 true,.ef 6 [],.rd 7 false] ?_;simp only[go_sem];refine Fd (h:=i) rfl (by omega) ?_;simp only[go_sem];refine hL.from (by decide) (by omega) (by rw[fl];omega) fun x hx=>?_;simp only[go_sem];refine As (ys:=(faC l).drop (i+1)) (by rw[hx _ _ hL];simp) (by decide) (by decide) (by decide) (.inr (.inr (.inl ⟨rfl,?_⟩)));simp only[hb];refine⟨trivial,by rw[fl];omega,trivial,by rw[List.length_drop,fl];omega,by rw[List.length_drop,fl];omega,?_⟩;have e1:i+((faC l).drop (i+1)).length=l.length-1:=by rw[List.length_drop,fl];omega
 rw[e1];obtain⟨E,hE⟩:∃E,E=(faC l).take i++(faC l).drop (i+1)++(faC l).drop (l.length-1):=⟨_,rfl⟩;have eL:E.length=l.length:=by rw[hE];simp[fl];omega
 rw[←hE];simp only[go_sem];refine Oi (l:=l.length-1) (h:=l.length) (p:=(l.length-1)*4) (by omega) (by omega) rfl (by omega) (by omega) (by omega) ?_;simp only[go_sem];have e2:l.length-(l.length-1)=1:=by omega
 rw[e2];refine Ix (l:=l.length-1) rfl Ab (by decide) (by decide) (by rw[eL];omega) (by decide) ?_;simp only[go_sem];have e3:E.take (l.length-1)=faC (l.take i++l.drop (i+1)):=by
  rw[hE,List.take_append_of_le_length (by simp[fl];omega),List.take_of_length_le (by simp[fl];omega)];simp[faC,List.map_take,List.map_drop]
 refine Af (r:=slv b (l.length-1) cap) rfl _ _ (Jh (m:=l.length-1) _ Ab) ?_;rw[Cw];have el:(faC (l.take i++l.drop (i+1))).length=l.length-1:=by simp[faC];omega
 refine⟨.inr ⟨b,cap,by rw[el],by rw[el];omega,?_⟩,fun y o hy hn=>?_⟩
 ·rw[Ab,List.append_assoc,List.take_append_of_le_length (by rw[List.length_take,eL];omega),List.take_take,Nat.min_self,e3]
 ·have hy2:y≠b:=fun e=>hn (Bw.2 e)
  exact⟨by rw[Ag hy2];exact hy,fun ho=>hy2 (Bw.1 ho)⟩
end
end BF
theorem Jd{σ σ2:St}{t q:Nat}{lv r:AV}{es:List (List AV)}{cs cs0:List AV}(h2:σ2 t=some (.cells (lv::cs)))(ht:σ t=some (.cells cs0))(hL:LAt q σ2 lv es)(hG:∀y o,y≠t→σ y=some o→σ2 y=some o∧¬Own lv y):Gt σ2 r (σ.set t (.cells (.sl q es::cs))) r:=by
 have hn:¬Own lv t:=hL.not_own h2;have hv:VW σ2 (σ.set t (.cells (.sl q es::cs))) lv (.sl q es):=hL.vw_same fun x hx=>by
  have hxt:x≠t:=fun e=>hn (e▸hx);rw[Ag hxt];cases hs:σ x with
  |none=>rfl
  |some o=>exact absurd hx (hG x o hxt hs).2
 exact view_of (K3 h2 (show OW _ _ (.cells _) (.cells _)from vws_cons hv (Ca _)) fun x p hx hp=>(hG x p hx hp).1) (.refl _)
def TB(σ:St)(t:Nat)(T:List Fa)(lim:Int):Prop:=σ t=some (.cells [.sl 4 (faC T),int lim])
def tbC(T:List Fa)(lim:Int):B7:=.cells [.sl 4 (faC T),int lim]
structure TOk(T:List Fa)(lim:Int):Prop where
 rises:C4 Ar T
 len:T.length≤1000000
 sm:∀f∈T,f.Sm
 lim:lim≠0
section
variable{σ:St}{t:Nat}{T:List Fa}{lim:Int}
theorem Ht(l:List Cn)(hl:l.length≤1000000000000):AT Tryz.prog 58 [.sl 3 (cnC l)] σ fun r σ'=>r= .sl 3 (cnC l)∧σ'=σ:=
 (O5 l hl .sl).post (by kernel_rfl) fun r σ' ⟨h,G⟩=>⟨_,_,Fs h.lat G,rfl,rfl⟩
theorem Ol(h:TB σ t T lim):AT Tryz.prog 126 [ptr t] σ fun r σ'=>r=boo (decide (lim=0))∧σ'=σ:=by
 refine AT.ob Tryz.func126 rfl ?_;unfold TB at h;simp only[go_sem,h];exact Ad (r:=boo _) rfl ⟨rfl,rfl⟩
theorem Vi(h:TB σ t T lim)(hT:TOk T lim)(f:Fa)(hf:f.Sm):AT Tryz.prog 127 [ptr t,.agg f.cs] σ fun r σ'=>BF.Found T f r∧σ'=σ:=by
 refine AT.ob Tryz.func127 rfl ?_;unfold TB at h;simp only[go_sem];refine Ctx.nil.alloc fun p σ1 c1=>?_;have hp:=c1.g0;have hs:=c1.sub;have h1:=hs _ _ h;clear c1;refine Ae [.rd 0 false,.rd 1 false,.rd 2 false,.rd 3 true,.rd 4 true,.ef 5 [],.rd 6 false,.rd 7 false,.rd 8 false,.rd 9 false] ?_;simp only[go_sem,hp,h1];have:=hT.len;refine(BF.bsearch_at T f (by omega) hT.sm hf hT.rises .sl).mono ?_;rintro _ σ1 ⟨⟨k,rfl,hk⟩,rfl⟩;simp only[go_sem];exact Af (r:=.tup [int k,boo _]) rfl _ σ (Aq hs) ⟨⟨k,rfl,hk⟩,rfl⟩
theorem Oj(h:TB σ t T lim)(hT:TOk T lim)(f:Fa)(hf:f.Sm):AT Tryz.prog 73 [ptr t,.agg f.cs] σ fun r σ'=>r=boo (decide (f∈T))∧σ'=σ:=by
 refine AT.ob Tryz.func73 rfl ?_;simp only[go_sem];refine Ctx.nil.alloc fun p σ1 c1=>?_;have hp:=c1.g0;have hs:=c1.sub;have h1:TB σ1 t T lim:=hs _ _ h;clear c1;simp only[go_sem];refine(Ol h1).mono ?_;rintro _ σ1 ⟨rfl,rfl⟩;have d1:=decide_eq_false hT.lim;simp only[go_sem,d1,hp];refine(Vi h1 hT f hf).mono ?_;rintro _ σ1 ⟨⟨k,rfl,hk⟩,rfl⟩;simp only[go_sem];exact Af (r:=boo _) rfl _ σ (Aq hs) ⟨rfl,rfl⟩
theorem Al7(lim:Int):AT Tryz.prog 49 [int lim] σ fun r σ'=>if 1≤lim∧lim≤4096 then∃b,σ b=none∧r= .tup [ptr b,int 0]∧σ'=σ.set b (tbC [] lim)else r= .tup [.v (.pointer none),int 2]∧σ'=σ:=by
 refine AT.ob Tryz.func49 rfl ?_;by_cases h1:lim<1
 ·have d1:=decide_eq_true h1
  simp only[go_sem,d1];refine Ad (r:=.tup [.v (.pointer none),int 2]) rfl ?_;rw[if_neg (by omega)];exact⟨rfl,rfl⟩
 ·have d1:=decide_eq_false h1
  by_cases h2:4096<lim
  ·have d2:=decide_eq_true h2
   simp only[go_sem,d1,d2];refine Ad (r:=.tup [.v (.pointer none),int 2]) rfl ?_;rw[if_neg (by omega)];exact⟨rfl,rfl⟩
  ·have d2:=decide_eq_false h2
   simp only[go_sem,d1,d2];refine Ax fun b hb hbn=>?_;simp only[go_sem];refine Af (r:=.tup [ptr b,int 0]) rfl (.tup [ptr b,int 0]) (σ.set b (tbC [] lim)) ?_ ?_
   ·have hS:SV (σ.set b (.cells [A0,int lim])) (σ.set b (tbC [] lim)):=K3 Ab (show OW _ _ (.cells _) (.cells _)from vws_cons (.nil 4) (Ca _)) fun x p hx hp=>by rw[Ag hx];exact hp
    exact view_of hS (.refl _)
   ·rw[if_pos (by omega)]
    exact⟨b,hb,rfl,rfl⟩
def Cp(T:List Fa)(lim:Int)(f:Fa):List Fa×Int:=if okF f=true then(if f∈T then(T,151)else if lim≤T.length then(T,150)else(Bd Ar f T,0))else(T,40)
theorem Al8(h:TB σ t T lim)(hT:TOk T lim)(f:Fa)(hf:f.Sm):AT Tryz.prog 80 [ptr t,.agg f.cs] σ fun r σ'=>r=int (Cp T lim f).2∧σ'=σ.set t (tbC (Cp T lim f).1 lim):=by
 refine AT.ob Tryz.func80 rfl ?_;have same:σ.set t (tbC T lim)=σ:=Bp h;simp only[go_sem];refine Ctx.nil.alloc fun p σ1 c1=>?_;have hp:=c1.g0;have hs:=c1.sub;have hp0:=c1.f0;have h1:TB σ1 t T lim:=hs _ _ h;clear c1;have out:∀{e:Int},Cp T lim f=(T,e)→∀{fr:Fr} {σ':St},(∀y o,σ y=some o→σ' y=some o)→Bb Tryz.prog fr σ' (Tryz.f80).results.toList=some (int e)→D3 Tryz.prog (fun r σ'=>r=int (Cp T lim f).2∧σ'=σ.set t (tbC (Cp T lim f).1 lim)) (Tryz.f80).results.toList fr σ':=fun h2 _ _ h3 hr=>
  Af hr _ σ (Aq h3) ⟨by rw[h2],by rw[h2];exact same.symm⟩
 simp only[go_sem];refine(Ol h1).mono ?_;rintro _ σ1 ⟨rfl,rfl⟩;have d1:=decide_eq_false hT.lim;simp only[go_sem,d1,hp];refine(Q9 f).mono ?_;rintro _ σ1 ⟨rfl,rfl⟩;cases hok:okF f with
 |false=>
  have e1:okE f=40:=by unfold okE;rw[hok];rfl
  have d2:(!decide (okE f=0))=true:=by rw[e1];rfl
  simp only[go_sem,d2];refine out (e:=okE f) (by unfold Cp;rw[hok,e1];rfl) hs rfl
 |true=>
 have e1:okE f=0:=by unfold okE;rw[hok];rfl
 have d2:(!decide (okE f=0))=false:=by rw[e1];rfl
 simp only[go_sem,d2,hp];refine(Vi h1 hT f hf).mono ?_;rintro _ σ1 ⟨⟨k,rfl,hk1,hk2,hk3⟩,rfl⟩;by_cases hm:f∈T
 ·have d3:=decide_eq_true hm
  simp only[go_sem,d3];exact out (by unfold Cp;rw[hok,if_pos rfl,if_pos hm]) hs rfl
 ·have d3:=decide_eq_false hm
  have hT':=h1;unfold TB at hT';have tl:=Am T;simp only[go_sem,d3];refine Ae [.rd 0 false,.rd 1 false,.rd 2 false,.rd 3 true,.rd 4 false,.rd 5 false,.rd 6 false,.rd 7 false,.rd 8 true,.rd 9 false] ?_;by_cases hl:lim≤T.length
  ·have d4:=decide_eq_true hl
   simp only[go_sem,hT',d4];exact out (by unfold Cp;rw[hok,if_pos rfl,if_neg hm,if_pos hl]) hs rfl
  ·have d4:=decide_eq_false hl
   simp only[go_sem,hT',d4,hp];refine(Ht f.ar (by unfold Fa.Sm at hf;exact hf)).mono ?_;rintro _ σ1 ⟨rfl,rfl⟩;have esp:Ay f.cs 3 [.sl 3 (cnC f.ar)]=f.cs:=rfl;have eid:σ1.set p (.cells f.cs)=σ1:=Bp hp;simp only[go_sem,hp,esp,eid];refine Ae [.rd 0 false,.rd 1 false,.rd 2 false,.rd 3 false,.rd 4 true,.rd 6 false,.rd 7 true,.rd 8 false,.ef 5 [7],.ef 9 [],.rd 10 false,.rd 11 false,.ef 12 []] ?_;simp only[go_sem,hT',hp];have tlen:=hT.len;refine(BF.clone_at T (by omega)).mono ?_;rintro v σ2 ⟨hO,hG⟩;have hp2:=(hG _ _ hp).1;have ht2:=(hG _ _ hT').1;simp only[go_sem];refine⟨fun k hk=>?_,(BF.insert_at T f k hk1 (by omega) hO).mono ?_⟩
   ·simp only[go_sem,hp2]
    exact hk
   rintro r σ3 ⟨hO3,hK⟩;have hL:=hO3.lat;have hins:=Hx (c:=Ar) hk1 hk2 hk3;rw[if_neg (fun⟨h,e⟩=>hm (by rw[←(An.zero _ _).1 e];exact List.getElem_mem h))]at hins;rw[←hins]at hL;have ht3:=(hK _ _ ht2 (hG _ _ hT').2);simp only[go_sem,ht3.1,hL.one,hL.cells];have eput:Cp T lim f=(Bd Ar f T,0):=by unfold Cp;rw[hok,if_pos rfl,if_neg hm,if_neg hl]
   refine Af (r:=int 0) rfl (int 0) (σ.set t (tbC (Bd Ar f T) lim)) ?_ ⟨by rw[eput],by rw[eput]⟩;refine Jd (lv:=r) Ab h (hL.keep fun y o hy ho=>?_) fun y o hyt hy=>?_
   ·rw[Ag (fun e=>by rw[e]at ho;exact ht3.2 ho)];exact hy
   ·have h2:=hG _ _ (hs _ _ hy)
    have h3:=hK _ _ h2.1 h2.2;exact⟨by rw[Ag hyt];exact h3.1,h3.2⟩
def H9(T:List Fa)(f:Fa):List Fa×Int:=if f∈T then(T.filter fun x=>!decide (x=f),0)else(T,152)
theorem Ais(h:TB σ t T lim)(hT:TOk T lim)(f:Fa)(hf:f.Sm):AT Tryz.prog 77 [ptr t,.agg f.cs] σ fun r σ'=>r=int (H9 T f).2∧σ'=σ.set t (tbC (H9 T f).1 lim):=by
 refine AT.ob Tryz.func77 rfl ?_;have same:σ.set t (tbC T lim)=σ:=Bp h;simp only[go_sem];refine Ctx.nil.alloc fun p σ1 c1=>?_;have hp:=c1.g0;have hs:=c1.sub;have h1:TB σ1 t T lim:=hs _ _ h;clear c1;simp only[go_sem];refine(Ol h1).mono ?_;rintro _ σ1 ⟨rfl,rfl⟩;have d1:=decide_eq_false hT.lim;simp only[go_sem,d1,hp];refine(Vi h1 hT f hf).mono ?_;rintro _ σ1 ⟨⟨k,rfl,hk1,hk2,hk3⟩,rfl⟩;have hT':=h1;unfold TB at hT';by_cases hm:f∈T
 case neg=>
  have d3:=decide_eq_false hm;simp only[go_sem,d3,Bool.not_false];have e:H9 T f=(T,152):=by unfold H9;rw[if_neg hm]
  exact Af (r:=int 152) rfl _ σ (Aq hs) ⟨by rw[e],by rw[e];exact same.symm⟩
 have d3:=decide_eq_true hm;have tlen:=hT.len;obtain⟨hkl,_,her⟩:=BF.erase_at hT.rises hk1 hk2 hk3 hm;simp only[go_sem,d3,Bool.not_true,hT'];refine(BF.clone_at T (by omega)).mono ?_;rintro v σ2 ⟨hO,hG⟩;have ht2:=(hG _ _ hT').1;simp only[go_sem,Ai (show k<9223372036854775807 by omega)];refine(BF.delete_at T k hkl (by omega) hO).mono ?_;rintro r σ3 ⟨hO3,hK⟩;have hL:=hO3.lat;rw[her]at hL;have ht3:=(hK _ _ ht2 (hG _ _ hT').2);simp only[go_sem,ht3.1,hL.one,hL.cells];have eput:H9 T f=(T.filter fun x=>!decide (x=f),0):=by unfold H9;rw[if_pos hm]
 refine Af (r:=int 0) rfl (int 0) (σ.set t (tbC (T.filter fun x=>!decide (x=f)) lim)) ?_ ⟨by rw[eput],by rw[eput]⟩;refine Jd (lv:=r) Ab h (hL.keep fun y o hy ho=>?_) fun y o hyt hy=>?_
 ·rw[Ag (fun e=>by rw[e]at ho;exact ht3.2 ho)];exact hy
 ·have h2:=hG _ _ (hs _ _ hy)
  have h3:=hK _ _ h2.1 h2.2;exact⟨by rw[Ag hyt];exact h3.1,h3.2⟩
end
section
variable{σ:St}{t:Nat}{T:List Fa}{lim:Int}
theorem Lm(a b:List Fa)(ha:a.length≤1000000000000)(sa:∀y∈a,y.Sm)(hb:b.length≤1000000000000)(sb:∀y∈b,y.Sm):AT Tryz.prog 20 [.sl 4 (faC a),.sl 4 (faC b)] σ fun r σ'=>r= .sl 4 (faC (Ba Ar [] (a.filter fun x=>!decide (x∈b))))∧σ'=σ:=by
 refine AT.ob Tryz.func20 rfl ?_;simp only[go_sem,Aa];refine⟨fun m fr σ'=>∃(k:Nat) (v:AV),m=a.length-k∧k≤a.length∧σ'=σ∧VW σ σ v (.sl 4 (faC (Ba Ar [] ((a.take k).filter fun x=>!decide (x∈b)))))∧fr 0= .sl 4 (faC a)∧fr 1= .sl 4 (faC b)∧fr 5=v∧fr 6=int k,⟨_,0,A0,rfl,by omega,rfl,.nil 4,rfl,rfl,rfl,rfl⟩,?_⟩;rintro m fr σ ⟨k,v,rfl,hk,rfl,hv,f0,f1,f5,f6⟩;simp only[go_sem,f0,f6];refine aIf_by (fun hlt=>?_) (fun hlt=>?_)
 ·have hkl:k<a.length:=by omega
  have hsk:=sa _ (List.getElem_mem hkl);have nx:=Ai (show k<9223372036854775807 by omega);simp only[go_sem,Aa,f0,f1,f6,Au hkl];refine⟨by omega,(Ds b a[k] hb sb hsk).mono ?_⟩;rintro _ σ ⟨rfl,rfl⟩;by_cases hm:a[k]∈b
  ·simp only[go_sem,Aa,decide_eq_true hm,Bool.not_true,f6,nx]
   have e:(a.take (k+1)).filter (fun x=>!decide (x∈b))=(a.take k).filter fun x=>!decide (x∈b):=by
    rw[List.take_add_one,List.getElem?_eq_getElem hkl,List.filter_append];simp[hm]
   exact⟨a.length-(k+1),by omega,k+1,v,rfl,by omega,by rw[e];exact hv,f0,f1,f5,rfl⟩
  ·have e:(a.take (k+1)).filter (fun x=>!decide (x∈b))=((a.take k).filter fun x=>!decide (x∈b))++[a[k]]:=by
    rw[List.take_add_one,List.getElem?_eq_getElem hkl,List.filter_append];simp[hm]
   have hl1:=Br (c:=Ar) (s:=[]) (l:=(a.take k).filter fun x=>!decide (x∈b));have hl2:=List.length_filter_le (fun x=>!decide (x∈b)) (a.take k);have hsm:∀x∈Ba Ar [] ((a.take k).filter fun x=>!decide (x∈b)),x.Sm:=fun x hx=>by
    rcases(Bl An).1 hx with h|h
    ·exact sa x (List.mem_of_mem_take (List.mem_filter.1 h).1)
    ·cases h
   simp only[List.length_nil,List.length_take]at hl1 hl2;simp only[go_sem,Aa,decide_eq_false hm,Bool.not_false,f0,f5,f6,Au hkl];refine⟨by omega,(AT.weak (Lu (Ba Ar [] ((a.take k).filter fun x=>!decide (x∈b))) a[k] (by omega) hsm hsk) (vws_cons hv (Ca _))).mono ?_⟩;rintro _ σ ⟨rfl,rfl⟩;simp only[go_sem,Aa,f0,f6,nx];exact⟨a.length-(k+1),by omega,k+1,_,rfl,by omega,by rw[e,Ko];exact .refl _,f1,rfl,rfl⟩
 ·rw[List.take_of_length_le (by omega)]at hv
  simp only[go_sem,Aa,f5];exact Af (r:=v) rfl _ σ (view_of (F9 fun x o hx=>.inl hx) hv) ⟨rfl,rfl⟩
theorem Ex{l:List Fa}(h:C4 Ar l):Ba Ar [] l=l:=Gk An (B9 An .nil) h fun y=>by rw[Bl An];simp
theorem Aif(l:List ByteArray)(s:ByteArray)(hl:l.length≤1000000000000):AT Tryz.prog 66 [.sl 1 (stC l),str s] σ fun r σ'=>r=boo (decide (s∈l))∧σ'=σ:=by
 refine AT.ob Tryz.func66 rfl ?_;simp only[go_sem,Aa];refine⟨fun m fr σ'=>∃i:Nat,m=l.length-i∧i≤l.length∧σ'=σ∧s∉l.take i∧fr 0= .sl 1 (stC l)∧fr 1=str s∧fr 5=int i,⟨_,0,rfl,by omega,rfl,by simp,rfl,rfl,rfl⟩,?_⟩;rintro m fr σ ⟨i,rfl,hi,rfl,hI,f0,f1,f5⟩;simp only[go_sem,f0,f5];refine aIf_by (fun hlt=>?_) (fun hlt=>?_)
 ·have hil:i<l.length:=by omega
  simp only[go_sem,Aa,f0,f1,f5,We hil];refine⟨by omega,?_⟩;refine aIf_by (fun h0=>?_) (fun h0=>?_)
  ·simp only[go_sem,Aa]
   exact Ad (r:=boo true) rfl ⟨by rw[decide_eq_true (h0▸List.getElem_mem hil)],rfl⟩
  ·simp only[go_sem,Aa,f0,f5,Ai (show i<9223372036854775807 by omega)]
   refine⟨l.length-(i+1),by omega,i+1,rfl,by omega,?_,f1,rfl⟩;rw[List.take_add_one,List.getElem?_eq_getElem hil];simp only[Option.toList,List.mem_append,List.mem_singleton,not_or];exact⟨hI,fun e=>h0 e.symm⟩
 ·simp only[go_sem,Aa]
  rw[List.take_of_length_le (by omega)]at hI;exact Ad (r:=boo false) rfl ⟨by rw[decide_eq_false hI],rfl⟩
theorem Ain(lim:Int):AT Tryz.prog 67 [int lim] σ fun r σ'=>if 1≤lim∧lim≤4096 then∃b,σ b=none∧r= .tup [ptr b,int 0]∧σ'=σ.set b (tbC [] lim)else r= .tup [.v (.pointer none),int 2]∧σ'=σ:=by
 refine AT.ob Tryz.func67 rfl ?_;by_cases h1:lim<1
 ·have d1:=decide_eq_true h1
  simp only[go_sem,d1];exact Ad (r:=.tup [.v (.pointer none),int 2]) rfl (by rw[if_neg (by omega)];exact⟨rfl,rfl⟩)
 have d1:=decide_eq_false h1;by_cases h2:4096<lim
 ·have d2:=decide_eq_true h2
  simp only[go_sem,d1,d2];exact Ad (r:=.tup [.v (.pointer none),int 2]) rfl (by rw[if_neg (by omega)];exact⟨rfl,rfl⟩)
 have d2:=decide_eq_false h2;simp only[go_sem,d1,d2];refine Ax fun b hb hm=>?_;simp only[go_sem];refine Af (r:=.tup [ptr b,int 0]) rfl (.tup [ptr b,int 0]) (σ.set b (tbC [] lim)) ?_ (by rw[if_pos (by omega)];exact⟨b,hb,rfl,rfl⟩);have hS:SV (σ.set b (.cells [A0,int lim])) (σ.set b (tbC [] lim)):=K3 Ab (show OW _ _ (.cells _) (.cells _)from vws_cons (.nil 4) (Ca _)) fun x p hx hp=>by rw[Ag hx];exact hp
 exact view_of hS (.refl _)
theorem Alt(h:TB σ t T lim)(hT:TOk T lim)(f:Fa)(hf:f.Sm):AT Tryz.prog 93 [ptr t,.agg f.cs] σ fun r σ'=>r=int (Cp T lim f).2∧σ'=σ.set t (tbC (Cp T lim f).1 lim):=by
 refine AT.ob Tryz.func93 rfl ?_;have same:σ.set t (tbC T lim)=σ:=Bp h;have tlen:=hT.len;simp only[go_sem];refine Ctx.nil.alloc fun p σ1 c1=>?_;have hp:=c1.g0;have hs:=c1.sub;have fp:=c1.f0;have h1:σ1 t=some (.cells [.sl 4 (faC T),int lim]):=hs _ _ h;clear c1;have out:∀{e:Int},Cp T lim f=(T,e)→∀{fr:Fr},Bb Tryz.prog fr σ1 (Tryz.f93).results.toList=some (int e)→D3 Tryz.prog (fun r σ'=>r=int (Cp T lim f).2∧σ'=σ.set t (tbC (Cp T lim f).1 lim)) (Tryz.f93).results.toList fr σ1:=fun h2 _ hr=>
  Af hr _ σ (Aq hs) ⟨by rw[h2],by rw[h2];exact same.symm⟩
 simp only[go_sem,hp];refine(Pt f).mono ?_;rintro _ σ1 ⟨rfl,rfl⟩;cases hok:okF f with
 |false=>
  have e1:okE f=40:=by unfold okE;rw[hok];rfl
  have d2:(!decide (okE f=0))=true:=by rw[e1];rfl
  simp only[go_sem,d2];exact out (by unfold Cp;rw[hok];rfl) rfl
 |true=>
 have e1:okE f=0:=by unfold okE;rw[hok];rfl
 have d2:(!decide (okE f=0))=false:=by rw[e1];rfl
 simp only[go_sem,d2];refine Ae [.rd 0 false,.rd 1 false,.rd 2 false,.rd 3 true,.rd 4 true,.ef 5 []] ?_;simp only[go_sem,hp,h1];refine(Ds T f (by omega) hT.sm hf).mono ?_;rintro _ σ1 ⟨rfl,rfl⟩;by_cases hm:f∈T
 ·simp only[go_sem,decide_eq_true hm]
  exact out (by unfold Cp;rw[hok,if_pos rfl,if_pos hm]) rfl
 simp only[go_sem,decide_eq_false hm];refine Ae [.rd 0 false,.rd 1 false,.rd 2 false,.rd 3 true,.rd 4 false,.rd 5 false,.rd 6 false,.rd 7 false,.rd 8 true,.rd 9 false] ?_;simp only[go_sem,h1,Am];by_cases hl:lim≤T.length
 ·simp only[go_sem,decide_eq_true hl]
  exact out (by unfold Cp;rw[hok,if_pos rfl,if_neg hm,if_pos hl]) rfl
 simp only[go_sem,decide_eq_false hl];refine Ae [.rd 0 false,.rd 1 false,.rd 2 false,.rd 3 false,.rd 4 true,.rd 5 true,.ef 6 [],.rd 7 false,.rd 8 false,.ef 9 []] ?_;simp only[go_sem,hp,h1];refine(Lu T f (by omega) hT.sm hf).mono ?_;rintro _ σ1 ⟨rfl,rfl⟩;have esp:Ay [.sl 4 (faC T),int lim] 0 [.sl 4 (faC (Bd Ar f T))]=[.sl 4 (faC (Bd Ar f T)),int lim]:=rfl;have eput:Cp T lim f=(Bd Ar f T,0):=by unfold Cp;rw[hok,if_pos rfl,if_neg hm,if_neg hl]
 simp only[go_sem,h1,esp];refine Af (r:=int 0) rfl _ (σ.set t (tbC (Bd Ar f T) lim)) (Aq fun y o hy=>?_) ⟨by rw[eput],by rw[eput]⟩;by_cases e:y=t
 ·subst e;rw[Ab]at hy⊢;exact hy
 ·rw[Ag e]at hy⊢;exact hs _ _ hy
theorem Aim(h:TB σ t T lim)(hT:TOk T lim)(f:Fa)(hf:f.Sm):AT Tryz.prog 90 [ptr t,.agg f.cs] σ fun r σ'=>r=int (H9 T f).2∧σ'=σ.set t (tbC (H9 T f).1 lim):=by
 refine AT.ob Tryz.func90 rfl ?_;have same:σ.set t (tbC T lim)=σ:=Bp h;have tlen:=hT.len;simp only[go_sem];refine Ctx.nil.alloc fun p σ1 c1=>?_;have hp:=c1.g0;have hs:=c1.sub;have h1:σ1 t=some (.cells [.sl 4 (faC T),int lim]):=hs _ _ h;clear c1;simp only[go_sem];refine Ae [.rd 0 false,.rd 1 false,.rd 2 false,.rd 3 true,.rd 4 true,.ef 5 [],.rd 6 false] ?_;simp only[go_sem,hp,h1];refine(Ds T f (by omega) hT.sm hf).mono ?_;rintro _ σ1 ⟨rfl,rfl⟩;by_cases hm:f∈T
 case neg=>
  have e:H9 T f=(T,152):=by unfold H9;rw[if_neg hm]
  simp only[go_sem,decide_eq_false hm];exact Af (r:=int 152) rfl _ σ (Aq hs) ⟨by rw[e],by rw[e];exact same.symm⟩
 simp only[go_sem,decide_eq_true hm];refine Ae [.rd 0 false,.rd 1 false,.rd 2 false,.rd 3 false,.rd 4 true,.rd 5 true,.rd 6 false,.ef 7 [],.rd 8 false,.rd 9 false,.ef 10 []] ?_;simp only[go_sem,hp,h1];refine(AT.weak (Lm T [f] (by omega) hT.sm (by simp) (fun y hy=>by rw[List.mem_singleton.1 hy];exact hf)) (vws_same Np)).mono ?_;rintro _ σ1 ⟨rfl,rfl⟩;have ef:(T.filter fun x=>!decide (x∈[f]))=T.filter fun x=>!decide (x=f):=by
  congr 1
  funext x;simp
 have e2:Ba Ar [] (T.filter fun x=>!decide (x∈[f]))=T.filter fun x=>!decide (x=f):=by rw[ef];exact Ex (hT.rises.filter _)
 rw[e2];have esp:Ay [.sl 4 (faC T),int lim] 0 [.sl 4 (faC (T.filter fun x=>!decide (x=f)))]=[.sl 4 (faC (T.filter fun x=>!decide (x=f))),int lim]:=rfl;have e:H9 T f=(T.filter fun x=>!decide (x=f),0):=by unfold H9;rw[if_pos hm]
 simp only[go_sem,h1,esp];refine Af (r:=int 0) rfl _ (σ.set t (tbC (T.filter fun x=>!decide (x=f)) lim)) (Aq fun y o hy=>?_) ⟨by rw[e],by rw[e]⟩;by_cases e:y=t
 ·subst e;rw[Ab]at hy⊢;exact hy
 ·rw[Ag e]at hy⊢;exact hs _ _ hy
end
structure De where
 ru:Int
 hd:Fa
 bo:List Fa
def De.cs(d:De):List AV:=[int d.ru,str d.hd.at',str d.hd.by',str d.hd.pr,.sl 3 (cnC d.hd.ar),.sl 4 (faC d.bo)]
@[go_sem] theorem De.len(d:De):d.cs.length=6:=rfl
@[go_sem] theorem De.one(d:De):d.cs.all AV.one=true:=rfl
@[go_sem] theorem De.take(d:De):d.cs.take 6=d.cs:=rfl
@[go_sem] theorem De.at0(d:De):d.cs.getD 0 (.v undef)=int d.ru:=rfl
@[go_sem] theorem De.at1(d:De):d.cs.getD 1 (.v undef)=str d.hd.at':=rfl
@[go_sem] theorem De.at2(d:De):d.cs.getD 2 (.v undef)=str d.hd.by':=rfl
@[go_sem] theorem De.at3(d:De):d.cs.getD 3 (.v undef)=str d.hd.pr:=rfl
@[go_sem] theorem De.at4(d:De):d.cs.getD 4 (.v undef)= .sl 3 (cnC d.hd.ar):=rfl
@[go_sem] theorem De.at5(d:De):d.cs.getD 5 (.v undef)= .sl 4 (faC d.bo):=rfl
@[go_sem] theorem De.hd1(d:De):(d.cs.drop 1).take 4=d.hd.cs:=rfl
@[go_sem] theorem De.bo5(d:De):(d.cs.drop 5).getD 0 (.v undef)= .sl 4 (faC d.bo):=rfl
@[go_sem] theorem De.take1(d:De):(d.cs.drop 0).getD 0 (.v undef)=int d.ru:=rfl
def deC(l:List De):List (List AV):=l.map De.cs
@[go_sem] theorem At(l:List De):(deC l).length=l.length:=by simp[deC]
theorem Bv{l:List De}{i:Nat}(h:i<l.length):(deC l).getD i []=l[i].cs:=by simp[deC,List.getD_eq_getElem?_getD,h]
def De.Sm(d:De):Prop:=d.hd.Sm∧d.bo.length≤1000000000000∧∀x∈d.bo,x.Sm
def Bf(x y:De):Int:=orI [Hb x.ru y.ru,Ar x.hd y.hd,Ed x.bo y.bo]
theorem Aja(x y:De):Bf x y=L2 (fun x y:De=>Hb x.ru y.ru) (L2 (fun x y:De=>Ar x.hd y.hd) fun x y:De=>Ed x.bo y.bo) x y:=by
 unfold Bf L2;simp only[orI];split
 ·split
  ·split
   ·rename_i h;exact h.symm
   ·rfl
  ·rfl
 ·rfl
theorem A7:G8 Bf:=by
 have p:=(Iy.pre De.ru).lex ((An.pre De.hd).lex (Dh.pre De.bo));rw[show Bf=_ from funext fun x=>funext fun y=>Aja x y];refine p.ord fun x y h=>?_;obtain⟨h1,h⟩:=Ge h;obtain⟨h2,h3⟩:=Ge h;cases x;cases y
 have e1:=(Iy.zero _ _).1 h1;have e2:=(An.zero _ _).1 h2;have e3:=(Dh.zero _ _).1 h3;simp only at e1 e2 e3;rw[e1,e2,e3]
instance decDe:DecidableEq De:=fun x y=>decidable_of_iff (Bf x y=0) (A7.zero x y)
section
variable{σ:St}
theorem Abn(x y:De)(hx:x.Sm)(hy:y.Sm):AT Tryz.prog 136 [.agg x.cs,.agg y.cs] σ fun r σ'=>r=int (Bf x y)∧σ'=σ:=by
 refine AT.ob Tryz.func136 rfl ?_;simp only[go_sem];refine Ctx.nil.alloc fun p σ1 c1=>?_;simp only[go_sem];refine c1.alloc fun q σ2 c2=>?_;have hq:=c2.g1.1.1;have hp:=c2.g1.1.2;have hs:=c2.sub;clear c1 c2;simp only[go_sem];refine Ae [.rd 0 false,.rd 1 true,.rd 2 false,.rd 3 true,.rd 5 false,.rd 6 true,.rd 7 false,.rd 8 true,.rd 10 false,.rd 11 true,.rd 12 false,.rd 13 true,.ef 4 [6,8,11,13],.ef 9 [11,13],.ef 14 [],.rd 15 false,.ef 16 [],.rd 17 false] ?_;simp only[go_sem,hp,hq];refine(Abo x.ru y.ru).mono ?_;rintro _ σ2 ⟨rfl,rfl⟩;simp only[go_sem];refine⟨⟨fun k hk=>?_,fun k hk=>?_,fun k hk=>?_,fun k hk=>?_⟩,(Ih x.hd y.hd hx.1 hy.1).mono ?_⟩
 iterate 4
  ·simp only[go_sem,hp,hq]
   exact hk
 rintro _ σ2 ⟨rfl,rfl⟩;simp only[go_sem];refine⟨⟨fun k hk=>?_,fun k hk=>?_⟩,(W9 .sl .sl hx.2 hy.2).mono ?_⟩
 iterate 2
  ·simp only[go_sem,hp,hq]
   exact hk
 rintro _ σ2 ⟨rfl,rfl⟩;simp only[go_sem];refine(Ah3 [Hb x.ru y.ru,Ar x.hd y.hd,Ed x.bo y.bo] (by simp)).mono ?_;rintro _ σ2 ⟨rfl,rfl⟩;simp only[go_sem];exact Af (r:=int _) rfl _ σ (Aq hs) ⟨rfl,rfl⟩
end
namespace BD
section
variable{σ:St}
def Found(l:List De)(f:De)(r:AV):Prop:=∃k:Nat,r= .tup [int k,boo (decide (f∈l))]∧k≤l.length∧(∀i (hi:i<k) (hl:i<l.length),Bf l[i] f<0)∧∀hk:k<l.length,¬Bf l[k] f<0
theorem Km{l:List De}{f:De}{k:Nat}(hr:C4 Bf l)(hk:k≤l.length)(h1:∀h:0<k,Bf (l[k-1]'(by omega)) f<0)(h2:∀h:k<l.length,¬Bf l[k] f<0){b:Bool}(hb:b=true↔∃h:k<l.length,Bf l[k] f=0):Found l f (.tup [int k,boo b]):=by
 have hr':=List.pairwise_iff_getElem.1 hr;have a1:∀i (hi:i<k) (hl:i<l.length),Bf l[i] f<0:=fun i hi hl=>by
  by_cases e:i=k-1
  ·subst e;exact h1 (by omega)
  ·exact A7.trans _ _ _ (hr' i (k-1) hl (by omega) (by omega)) (h1 (by omega))
 refine⟨k,?_,hk,a1,h2⟩;have:b=decide (f∈l):=by
  rw[Bool.eq_iff_iff,hb,decide_eq_true_iff];constructor
  ·rintro⟨h,e⟩
   rw[←(A7.zero _ _).1 e];exact List.getElem_mem h
  ·intro hm
   obtain⟨i,hi,e⟩:=List.getElem_of_mem hm;have hik:¬i<k:=fun h=>by
    have:=a1 i h hi;rw[e,A7.self]at this;omega
   have hkl:k<l.length:=by omega
   by_cases e2:i=k
   ·subst e2
    exact⟨hi,by rw[e];exact A7.self f⟩
   ·have:=hr' k i hkl hi (by omega)
    rw[e]at this;exact absurd this (h2 hkl)
 rw[this]
theorem Z7{i j:Nat}(h:i+j<9223372036854775807):IntKind.i64.wrap ((IntKind.u64.wrap (IntKind.i64.wrap ((i:Int)+j))).fdiv (2^min 1 64))=(((i+j)/2:Nat):Int):=by
 rw[Ah (x:=(i:Int)+j) (by omega)];have e1:IntKind.u64.wrap ((i:Int)+j)=(i:Int)+j:=by
  simp[IntKind.wrap,IntKind.signed,IntKind.bits];omega
 have e2:(2:Int)^min 1 64=2:=rfl;rw[e1,e2,show((i:Int)+j).fdiv 2=(((i+j)/2:Nat):Int)from ?_]
 ·exact Ah (by omega)
 ·rw[Int.fdiv_eq_ediv_of_nonneg _ (by omega)]
  omega
theorem bsearch_at{lv:AV}(l:List De)(f:De)(hl:l.length≤4000000000000)(hs:∀y∈l,y.Sm)(hf:f.Sm)(hr:C4 Bf l)(h:Rd 6 σ lv (deC l)):AT Tryz.prog 135 [lv,.agg f.cs,fnv 136] σ fun r σ'=>Found l f r∧σ'=σ:=by
 refine AT.ob Tryz.func135 rfl ?_;simp only[go_sem];refine Ctx.nil.alloc fun p σ1 c1=>?_;have hp:=c1.g0;have hsub:=c1.sub;have h1:=h.keep hsub;clear c1;simp only[go_sem,Aa,h1.len,At];refine⟨fun m fr σ'=>∃i j:Nat,m=j-i∧i≤j∧j≤l.length∧(∀h:0<i,∀h2:i-1<l.length,Bf l[i-1] f<0)∧(∀h:j<l.length,¬Bf l[j] f<0)∧σ'=σ1∧fr 0=lv∧fr 2=fnv 136∧fr 4=ptr p∧fr 8=int l.length∧fr 9=int i∧fr 10=int j,⟨_,0,l.length,rfl,by omega,by omega,fun h=>by omega,fun h=>by omega,rfl,rfl,rfl,rfl,rfl,rfl,rfl⟩,?_⟩;rintro m fr σ1 ⟨i,j,rfl,hij,hjl,hI,hJ,rfl,f0,f2,f4,f8,f9,f10⟩;simp only[go_sem,f9,f10];refine aIf_by (fun hlt=>?_) (fun hlt=>?_)
 ·have hij':i<j:=by omega
  have hm:=Z7 (i:=i) (j:=j) (by omega);obtain⟨q,hq⟩:∃q,q=(i+j)/2:=⟨_,rfl⟩;rw[←hq]at hm;have hql:q<l.length:=by omega
  simp only[go_sem,Aa,f9,f10,hm];refine Ae [.rd 0 false,.rd 1 false,.rd 2 false,.rd 3 false,.rd 4 true,.rd 5 true,.ef 6 [],.rd 7 false] ?_;simp only[go_sem,Aa,f0,f2,f4];refine h1.elem (by omega) (by rw[At];omega) fun e he=>?_;simp only[go_sem,Aa];refine he.load (by decide) (by rw[Int.toNat_natCast,Bv hql];exact Nat.le_refl _) ?_;simp only[go_sem,Aa,Bv hql,hp,f4];refine(Abn l[q] f (hs _ (List.getElem_mem hql)) hf).mono ?_;rintro _ σ1 ⟨rfl,rfl⟩;simp only[go_sem,Aa];refine aIf_by (fun hc=>?_) (fun hc=>?_)
  ·simp only[go_sem,Aa,f0,f2,f4,f8,f9,f10,Ai (show q<9223372036854775807 by omega)]
   refine⟨j-(q+1),by omega,q+1,j,rfl,by omega,hjl,fun _ h2=>?_,hJ,?_⟩
   ·exact hc
   ·(and_intros<;>first|assumption|rfl|omega)
  ·simp only[go_sem,Aa,f0,f2,f4,f8,f9,f10]
   refine⟨q-i,by omega,i,q,rfl,by omega,by omega,hI,fun _=>hc,?_⟩
   (and_intros<;>first|assumption|rfl|omega)
 ·have e:i=j:=by omega
  subst e;simp only[go_sem,Aa,f8,f9];refine Ae [.rd 0 false,.rd 1 false,.rd 2 false,.rd 3 false,.rd 4 false,.rd 5 false,.rd 6 false,.rd 7 false,.rd 8 false,.rd 9 true,.rd 10 true,.ef 11 [],.rd 12 false,.rd 13 false,.rd 14 false,.rd 15 false] ?_;by_cases hil:i<l.length
  ·have d1:=decide_eq_true (show(i:Int)<l.length by omega)
   simp only[go_sem,Aa,f0,f2,f4,f8,f9,d1];refine h1.elem (by omega) (by rw[At];omega) fun e he=>?_;simp only[go_sem,Aa];refine he.load (by decide) (by rw[Int.toNat_natCast,Bv hil];exact Nat.le_refl _) ?_;simp only[go_sem,Aa,Bv hil,hp,f4];refine(Abn l[i] f (hs _ (List.getElem_mem hil)) hf).mono ?_;rintro _ σ1 ⟨rfl,rfl⟩;simp only[go_sem,Aa,f9];refine Af (r:=.tup [int i,boo (decide (Bf l[i] f=0))]) rfl _ σ (Aq hsub) ⟨Km hr hjl (fun h=>hI h (by omega)) hJ ?_,rfl⟩;rw[decide_eq_true_iff];exact⟨fun h=>⟨hil,h⟩,fun⟨_,h⟩=>h⟩
  ·have d1:=decide_eq_false (show¬(i:Int)<l.length by omega)
   simp only[go_sem,Aa,f8,f9,d1];refine Af (r:=.tup [int i,boo false]) rfl _ σ (Aq hsub) ⟨Km hr hjl (fun h=>hI h (by omega)) hJ ?_,rfl⟩;exact⟨fun h=>(by cases h),fun⟨h,_⟩=>absurd h hil⟩
theorem erase_at{T:List De}{k:Nat}(hr:C4 Bf T){f:De}(hk:k≤T.length)(h1:∀i (hi:i<k) (hl:i<T.length),Bf T[i] f<0)(h2:∀hk:k<T.length,¬Bf T[k] f<0)(hm:f∈T):∃h:k<T.length,T[k]=f∧T.take k++T.drop (k+1)=T.filter fun x=>!decide (x=f):=by
 obtain⟨i,hi,e⟩:=List.getElem_of_mem hm;have hik:¬i<k:=fun h=>by
  have:=h1 i h hi;rw[e,A7.self]at this;omega
 have hkl:k<T.length:=by omega
 have hr':=List.pairwise_iff_getElem.1 hr;have hki:k=i:=by
  rcases Nat.lt_or_ge k i with h|h
  ·have:=hr' k i hkl hi h
   rw[e]at this;exact absurd this (h2 hkl)
  ·omega
 subst hki;refine⟨hkl,e,?_⟩;have hne:∀j (hj:j<T.length),j≠k→T[j]≠f:=fun j hj hjk hf=>by
  rcases Nat.lt_or_gt_of_ne hjk with h|h
  ·have:=hr' j k hj hkl h
   rw[e,hf,A7.self]at this;omega
  ·have:=hr' k j hkl hj h
   rw[e,hf,A7.self]at this;omega
 conv=>rhs;rw[←List.take_append_drop k T]
 rw[List.filter_append,List.drop_eq_getElem_cons hkl,List.filter_cons_of_neg (by simp[e])]
 congr 1
 ·refine(List.filter_eq_self.2 fun x hx=>?_).symm
  obtain⟨j,hj,rfl⟩:=List.getElem_of_mem hx;rw[List.length_take]at hj;rw[List.getElem_take];simpa using hne j (by omega) (by omega)
 ·refine(List.filter_eq_self.2 fun x hx=>?_).symm
  obtain⟨j,hj,rfl⟩:=List.getElem_of_mem hx;rw[List.length_drop]at hj;rw[List.getElem_drop];simpa using hne (k+1+j) (by omega) (by omega)
end
end BD
namespace BD
section
variable{σ:St}
theorem clone_at(l:List De)(hl:l.length≤1000000000000):AT Tryz.prog 138 [.sl 6 (deC l)] σ fun r σ'=>Ow 6 σ' r (deC l)∧Cd σ σ' r:=by
 refine AT.ob Tryz.func138 rfl ?_;simp only[go_sem];by_cases he:deC l=[]
 ·refine⟨fun h=>absurd he h,fun _ b=>?_⟩
  refine aIf_bool (fun _=>?_) (fun _=>?_)
  ·simp only[go_sem]
   exact Ad (r:=A0) rfl ⟨.inl ⟨he,.inl rfl⟩,.nil⟩
  ·simp only[go_sem]
   refine As (ys:=deC l) (by simp[src]) (by decide) (by decide) (by decide) ?_;rw[he];refine⟨rfl,fun _=>?_,fun h=>absurd rfl h⟩;simp only[go_sem];exact Ad (r:=.fsl 6 []) rfl ⟨.inl ⟨rfl,.inr rfl⟩,fun y p hy=>⟨hy,A1⟩⟩
 ·refine⟨fun _=>?_,fun h=>absurd h he⟩
  refine As (ys:=deC l) (by simp[src]) (by decide) (by decide) (by decide) (Ow.of_app .full he (by rw[At];simp only[List.length_nil];omega) fun lv σ1 h1 h2 _=>?_);simp only[go_sem];exact Ad (r:=lv) rfl ⟨h1,fun y p hy=>h2 y p hy A1⟩
def Ws(σ:St)(v:AV)(es:List (List AV))(r:AV)(σ':St):Prop:=Ow 6 σ' r es∧∀y o,σ y=some o→¬Own v y→σ' y=some o∧¬Own r y
theorem insert_at{v:AV}(l:List De)(f:De)(i:Nat)(hi:i≤l.length)(hl:l.length≤1000000000000)(h:Ow 6 σ v (deC l)):AT Tryz.prog 165 [v,int i,.fsl 6 [f.cs]] σ (Ws σ v (deC (l.take i++f::l.drop i))):=by
 refine AT.ob Tryz.func165 rfl ?_;simp only[go_sem];refine h.lat.from (by decide) (by omega) (by rw[At];omega) fun _ _=>?_;have d1:decide ((1:Int)=0)=false:=rfl;simp only[go_sem,h.lat.len,At];refine aIf_by (fun hin=>?_) (fun hin=>?_)
 ·have e:i=l.length:=by omega
  subst e;simp only[go_sem];refine As (ys:=[f.cs]) (by rfl) (by decide) (by decide) (by decide) (Ow.of_app h.lat (by simp) (by rw[At];simp only[List.length_cons,List.length_nil];omega) fun r σ1 h1 h2 _=>?_);simp only[go_sem];refine Ad (r:=r) rfl ⟨?_,h2⟩;rw[show l.take l.length++f::l.drop l.length=l++[f] by simp];rw[show deC l++[f.cs]=deC (l++[f]) by simp[deC]]at h1;exact h1
 ·have hil:i<l.length:=by omega
  rcases h with⟨h0,_⟩|⟨b,cap,rfl,hcap,hb⟩
  ·have:=congrArg List.length h0
   rw[At,List.length_nil]at this;omega
  have fl:=At l;rw[fl]at hcap;obtain⟨A,y,B,hA,hL⟩:∃(A:List (List AV)) (y:List AV) (B:List (List AV)),A.length=i∧deC l=A++y::B:=by
   refine⟨(deC l).take i,(deC l)[i]'(by omega),(deC l).drop (i+1),by rw[List.length_take];omega,?_⟩;rw[←List.drop_eq_getElem_cons,List.take_append_drop]
  have hB:B.length=l.length-(i+1):=by
   have:=congrArg List.length hL;rw[fl,List.length_append,List.length_cons]at this;omega
  have hdr:(deC l).drop i=y::B:=by rw[hL,List.drop_append,hA,List.drop_of_length_le (by omega)];simp
  have htk:(deC l).take i=A:=by rw[hL,List.take_append,List.take_of_length_le (by omega),hA];simp
  have fin:A++f.cs::y::B=deC (l.take i++f::l.drop i):=by
   rw[←hdr,←htk];simp[deC,List.map_take,List.map_drop]
  have finl:(deC (l.take i++f::l.drop i)).length=l.length+1:=by simp[deC];omega
  have w1:IntKind.i64.wrap ((l.length:Int)+1)=((l.length+1:Nat):Int):=Ai (by omega);have w2:IntKind.i64.wrap (((l.length+1:Nat):Int)-i)=((l.length+1-i:Nat):Int):=by rw[Ah (by omega)];omega
  have w3:IntKind.i64.wrap ((i:Int)+1)=((i+1:Nat):Int):=Ai (by omega);simp only[go_sem,w1];refine aIf_by (fun hc=>?_) (fun hc=>?_)
  ·
   have hsz:4≤1000:=by decide
   simp only[go_sem,w1,w2];refine Fd (h:=i) rfl (by omega) ?_;simp only[go_sem,w1,w2];refine W2 rfl hb (by rw[fl];omega) (by decide) (by decide) (by decide) (by omega) (by omega) (by omega) fun b' c' hb' hc'=>?_;obtain⟨z,hz⟩:∃z:List AV,z=[Value.int .i64 0,.string ⟨#[]⟩,.string ⟨#[]⟩,.string ⟨#[]⟩,.slice none 0 0,.slice none 0 0].map AV.v:=⟨_,rfl⟩;have hbb:b≠b':=fun e=>by rw[←e,hb]at hb';cases hb'
   have ez:i+(l.length+1-i)=l.length+1:=by omega
   rw[ez]at hc'⊢;have e0:(deC l).take i++List.replicate (l.length+1-i) z=A++z::List.replicate (l.length-i) z:=by
    rw[htk,show l.length+1-i=(l.length-i)+1 by omega,List.replicate_succ]
   rw[←hz,e0];have el:(A++z::List.replicate (l.length-i) z).length=l.length+1:=by simp;omega
   simp only[go_sem];refine Bj (p:=i*6) rfl (by omega) (by omega) (by omega) ?_;simp only[go_sem];refine Gx (m:=i) (ys:=[f.cs]) rfl Ab (by decide) (by simp[cut];omega) (by rw[el];omega) (by simp only[List.length_cons,List.length_nil];omega) ?_;rw[show List.take i (A++z::List.replicate (l.length-i) z)++[f.cs]++List.drop (i+ [f.cs].length) (A++z::List.replicate (l.length-i) z)=A++f.cs::List.replicate (l.length-i) z from spl1 hA,Cw];have el2:(A++f.cs::List.replicate (l.length-i) z).length=l.length+1:=by simp;omega
   obtain⟨σ2,e2⟩:∃σ2,σ2=σ.set b' (.rows 6 (A++f.cs::List.replicate (l.length-i) z) false c'):=⟨_,rfl⟩;have g1:σ2 b'=some (.rows 6 (A++f.cs::List.replicate (l.length-i) z) false c'):=by rw[e2];exact Ab
   have g2:σ2 b=some (.rows 6 (deC l) false cap):=by rw[e2,Ag hbb];exact hb
   have g3:∀y o,σ y=some o→σ2 y=some o∧y≠b':=fun y o hy=>by
    have:y≠b':=fun e=>by rw[e,hb']at hy;cases hy
    exact⟨by rw[e2,Ag this];exact hy,this⟩
   rw[←e2];clear e2 el;simp only[go_sem];refine Ae [.rd 0 false,.rd 1 false,.rd 2 false,.rd 3 false,.rd 4 true,.rd 5 false,.rd 6 false,.rd 7 true,.ef 8 []] ?_;simp only[go_sem,w3];refine Dn (l:=i+1) (p:=(i+1)*6) rfl rfl (by omega) (by omega) (by omega) ?_;simp only[go_sem];refine Bj (p:=i*6) rfl (by omega) (by omega) (by omega) ?_;simp only[go_sem];refine Gx (m:=i+1) (ys:=y::B) rfl g1 (by decide) ?_ (by omega) (by simp only[List.length_cons];omega) ?_
   ·rw[Qn (m:=i) rfl (by decide) g2 (by rw[fl];omega)]
    rw[List.take_of_length_le (by rw[List.length_drop,fl];omega),hdr]
   simp only[go_sem];refine Ad (r:=slv b' (l.length+1) c') rfl ⟨.inr ⟨b',c',by rw[finl],by rw[finl];omega,?_⟩,fun y o hy hn=>?_⟩
   ·rw[Ab]
    have:=spl2 (x:=f.cs) (B:=y::B) (R:=List.replicate (l.length-i) z) hA (by simp;omega);rw[List.length_cons,fin]at this;rw[this]
   ·obtain⟨h1,h2⟩:=g3 y o hy
    exact⟨by rw[Ag h2];exact h1,fun ho=>h2 (Bw.1 ho)⟩
  ·simp only[go_sem,w1]
   refine Fd (h:=l.length+1) rfl (by omega) ?_;simp only[go_sem,w3];refine Dn (l:=i+1) (p:=(i+1)*6) rfl rfl (by omega) (by omega) (by omega) ?_;simp only[go_sem];refine(Ac0 (P:=Tryz.prog) Tryz.func211 rfl rfl (by kernel_rfl) rfl rfl tk74 hb (by decide) (by decide) (by omega)).mono ?_;rintro _ σ1 ⟨rfl,rfl⟩;simp only[go_sem,Bool.not_false];refine Ae [.rd 0 false,.rd 1 false,.rd 2 false,.rd 3 false,.rd 4 true,.rd 5 false,.rd 6 false,.rd 7 true,.ef 8 []] ?_;simp only[go_sem,w3];refine Dn (l:=i+1) (p:=(i+1)*6) rfl rfl (by omega) (by omega) (by omega) ?_;simp only[go_sem];refine Bj (p:=i*6) rfl (by omega) (by omega) (by omega) ?_;simp only[go_sem];refine Gx (m:=i+1) (ys:=y::B) rfl hb (by decide) ?_ (by omega) (by simp only[List.length_cons];omega) ?_
   ·rw[Qn (m:=i) rfl (by decide) hb (by rw[fl];omega)]
    rw[List.take_of_length_le (by rw[List.length_drop,fl];omega),hdr]
   simp only[go_sem];refine Bj (p:=i*6) rfl (by omega) (by omega) (by omega) ?_;simp only[go_sem];refine Gx (m:=i) (ys:=[f.cs]) rfl Ab (by decide) (by simp[cut];omega) (by simp;omega) (by simp only[List.length_cons,List.length_nil];omega) ?_;simp only[go_sem];refine Ad (r:=slv b (l.length+1) cap) rfl ⟨.inr ⟨b,cap,by rw[finl],by rw[finl];omega,?_⟩,fun y o hy hn=>?_⟩
   ·rw[Ab,←fin,hL]
    have:=spl3 (x:=f.cs) (B:=B) (y:=y) hA;rw[List.length_cons]at this;rw[this]
   ·have hy2:y≠b:=fun e=>hn (Bw.2 e)
    exact⟨by rw[Ag hy2];exact hy,fun ho=>hy2 (Bw.1 ho)⟩
theorem delete_at{v:AV}(l:List De)(i:Nat)(hi:i<l.length)(hl:l.length≤1000000000000)(h:Ow 6 σ v (deC l)):AT Tryz.prog 137 [v,int i,int (i+1:Nat)] σ (Ws σ v (deC (l.take i++l.drop (i+1)))):=by
 refine AT.ob Tryz.func137 rfl ?_;have fl:=At l;rcases h with⟨h0,_⟩|⟨b,cap,rfl,hcap,hb⟩
 ·have:=congrArg List.length h0
  rw[At,List.length_nil]at this;omega
 have hL:LAt 6 σ (slv b (deC l).length cap) (deC l):=.inr (.inr ⟨b,cap,rfl,hcap,hb⟩);rw[fl]at hcap hL⊢;have d1:decide ((i:Int)=((i+1:Nat):Int))=false:=decide_eq_false (by omega);simp only[go_sem];refine Ui (l:=i) (h:=i+1) (m:=l.length) rfl rfl rfl (by omega) (by omega) (by omega) fun _=>?_;simp only[go_sem,d1];refine Ae [.rd 0 false,.rd 1 false,.rd 2 true,.rd 3 false,.rd 4 false,.rd 5 true,.ef 6 [],.rd 7 false] ?_;simp only[go_sem];refine Fd (h:=i) rfl (by omega) ?_;simp only[go_sem];refine hL.from (by decide) (by omega) (by rw[fl];omega) fun x hx=>?_;simp only[go_sem];refine As (ys:=(deC l).drop (i+1)) (by rw[hx _ _ hL];simp) (by decide) (by decide) (by decide) (.inr (.inr (.inl ⟨rfl,?_⟩)));simp only[hb];refine⟨trivial,by rw[fl];omega,trivial,by rw[List.length_drop,fl];omega,by rw[List.length_drop,fl];omega,?_⟩;have e1:i+((deC l).drop (i+1)).length=l.length-1:=by rw[List.length_drop,fl];omega
 rw[e1];obtain⟨E,hE⟩:∃E,E=(deC l).take i++(deC l).drop (i+1)++(deC l).drop (l.length-1):=⟨_,rfl⟩;have eL:E.length=l.length:=by rw[hE];simp[fl];omega
 rw[←hE];simp only[go_sem];refine Oi (l:=l.length-1) (h:=l.length) (p:=(l.length-1)*6) (by omega) (by omega) rfl (by omega) (by omega) (by omega) ?_;simp only[go_sem];have e2:l.length-(l.length-1)=1:=by omega
 rw[e2];refine Ix (l:=l.length-1) rfl Ab (by decide) (by decide) (by rw[eL];omega) (by decide) ?_;simp only[go_sem];have e3:E.take (l.length-1)=deC (l.take i++l.drop (i+1)):=by
  rw[hE,List.take_append_of_le_length (by simp[fl];omega),List.take_of_length_le (by simp[fl];omega)];simp[deC,List.map_take,List.map_drop]
 refine Af (r:=slv b (l.length-1) cap) rfl _ _ (Jh (m:=l.length-1) _ Ab) ?_;rw[Cw];have el:(deC (l.take i++l.drop (i+1))).length=l.length-1:=by simp[deC];omega
 refine⟨.inr ⟨b,cap,by rw[el],by rw[el];omega,?_⟩,fun y o hy hn=>?_⟩
 ·rw[Ab,List.append_assoc,List.take_append_of_le_length (by rw[List.length_take,eL];omega),List.take_take,Nat.min_self,e3]
 ·have hy2:y≠b:=fun e=>hn (Bw.2 e)
  exact⟨by rw[Ag hy2];exact hy,fun ho=>hy2 (Bw.1 ho)⟩
end
end BD
def De.csv(d:De)(v:AV):List AV:=[int d.ru,str d.hd.at',str d.hd.by',str d.hd.pr,.sl 3 (cnC d.hd.ar),v]
theorem De.csv_one(d:De){v:AV}(h:v.one=true):(d.csv v).all AV.one=true:=by
 show(true&&(true&&(true&&(true&&(true&&(v.one&&true))))))=true;rw[h];rfl
@[go_sem] theorem De.csv_len(d:De)(v:AV):(d.csv v).length=6:=rfl
@[go_sem] theorem De.csv_take(d:De)(v:AV):(d.csv v).take 6=d.csv v:=rfl
@[go_sem] theorem De.csv_5(d:De)(v:AV):(d.csv v).getD 5 (.v undef)=v:=rfl
theorem Y2{x:Fa}{l:List Fa}{i:Nat}(h:i<l.length)(hx:l[i]=x):(faC l).set i (Ay ((faC l).getD i []) 3 [.sl 3 (cnC x.ar)])=faC l:=by
 rw[Au h,hx];refine List.ext_getElem (by simp) fun j h1 h2=>?_;rw[List.getElem_set];split
 ·rename_i e
  subst e;simp only[faC,List.getElem_map,hx];rfl
 ·rfl
section
variable{σ:St}
theorem Aah(d:De)(hd:d.Sm):AT Tryz.prog 166 [.agg d.cs] σ fun r σ'=>r= .agg d.cs∧σ'=σ:=by
 refine AT.ob Tryz.func166 rfl ?_;obtain⟨hd1,hd2,hd3⟩:=hd;simp only[go_sem];refine Ctx.nil.alloc fun p σ1 c1=>?_;simp only[go_sem];refine c1.alloc fun q σ2 c2=>?_;have hq:=c2.g1.1.1;have hp:=c2.g1.1.2;have hpq:=c2.g1.2;have hs:=c2.sub;have fp:=c1.f0;have fq:=c2.f0;clear c1 c2;simp only[go_sem,hp];refine(Ht d.hd.ar hd1).mono ?_;rintro _ σ2 ⟨rfl,rfl⟩;have e1:Ay d.cs 4 [.sl 3 (cnC d.hd.ar)]=d.cs:=rfl;have e2:σ2.set p (.cells d.cs)=σ2:=Bp hp;simp only[go_sem,hp,e1,e2];refine(BF.clone_at d.bo (by omega)).mono ?_;rintro v σ3 ⟨hO,hG⟩;have hp3:=(hG _ _ hp);have hq3:=(hG _ _ hq);have e3:Ay d.cs 5 [v]=d.csv v:=rfl;have o3:=d.csv_one hO.lat.one;obtain⟨σ4,e4⟩:∃σ4,σ4=σ3.set p (.cells (d.csv v)):=⟨_,rfl⟩;have hp4:σ4 p=some (.cells (d.csv v)):=by rw[e4];exact Ab
 have hq4:∃cs,σ4 q=some (.cells cs)∧cs.length=6:=⟨_,by rw[e4,Ag hpq.1];exact hq3.1,rfl⟩;have hO4:Ow 4 σ4 v (faC d.bo):=hO.keep fun y o hy ho=>by rw[e4,Ag (fun e=>by rw[e]at ho;exact hp3.2 ho)];exact hy
 have hs4:∀y o,σ y=some o→σ4 y=some o∧¬Own v y∧y≠p∧y≠q:=fun y o hy=>by
  have h1:y≠p:=fun e=>by rw[e,fp]at hy;cases hy
  have h2:y≠q:=fun e=>by rw[e,fq]at hy;cases hy
  have h3:=hG _ _ (hs _ _ hy);exact⟨by rw[e4,Ag h1];exact h3.1,h3.2,h1,h2⟩
 simp only[go_sem,Aa,hp3.1,hO.lat.one,hO.lat.cells,e3,←e4,hp4,hO4.lat.len,Am];refine⟨fun m fr σ'=>∃i:Nat,m=d.bo.length-i∧i≤d.bo.length∧σ'=σ4∧fr 1=ptr p∧fr 2=ptr q∧fr 16=int d.bo.length∧fr 17=int i,⟨_,0,rfl,by omega,rfl,rfl,rfl,rfl,rfl⟩,?_⟩;clear e4;rintro m fr σ4 ⟨i,rfl,hi,rfl,f1,f2,f16,f17⟩;simp only[go_sem,f16,f17];refine aIf_by (fun hlt=>?_) (fun hlt=>?_)
 ·have hil:i<d.bo.length:=by omega
  have fl:=Am d.bo;rcases hO4 with⟨h0,_⟩|⟨b,cap,rfl,hcap,hb⟩
  ·have:=congrArg List.length h0
   rw[Am,List.length_nil]at this;omega
  have e5:=Y2 hil rfl;have e6:σ4.set b (.rows 4 (faC d.bo) false cap)=σ4:=Bp hb;have sx:=hd3 _ (List.getElem_mem hil);rw[fl]at hcap;simp only[go_sem,Aa,f1,f17];refine Ae [.rd 0 false,.rd 1 true,.rd 2 false,.rd 3 false,.rd 4 true,.rd 5 false,.rd 6 false,.rd 7 false,.rd 8 true,.ef 9 [1],.rd 10 false,.rd 11 false,.ef 12 []] ?_;simp only[go_sem,Aa,f1,f17,hp4,hb,Au hil,fl];refine⟨by omega,by omega,(Ht d.bo[i].ar sx).mono ?_⟩;rintro _ σ4 ⟨rfl,rfl⟩;simp only[go_sem,Aa,f1,f2,f16,f17,hp4,hb,fl,e5,e6,Ai (show i<9223372036854775807 by omega)];refine⟨by omega,by omega,d.bo.length-(i+1),by omega,i+1,?_⟩
  (and_intros<;>first|assumption|rfl|omega)
 ·obtain⟨cs,hq5,hql⟩:=hq4
  have dr6:cs.drop 6=[]:=List.drop_eq_nil_of_le (by omega);simp only[go_sem,Aa,f1,f2,hp4,hq5,o3,dr6,hql];refine Iw σ (.agg d.cs) f2 Ab Aqb rfl rfl (view_of (F9 fun x o' hx=>.inl ?_) (.agg _ _ rfl ?_)) ⟨rfl,rfl⟩
  ·obtain⟨h1,_,_,h4⟩:=hs4 x o' hx
   rw[Ag h4];exact h1
  ·have hv:VW (σ4.set q (.cells (d.csv v))) σ v (.sl 4 (faC d.bo)):=by
    have hO5:LAt 4 (σ4.set q (.cells (d.csv v))) v (faC d.bo):=hO4.lat.keep fun y o hy ho=>by
     have:y≠q:=fun e=>by subst e;exact hO4.lat.not_own hq5 ho
     rw[Ag this];exact hy
    refine hO5.vw_same fun x hx=>?_;cases hsx:σ x with
    |none=>rfl
    |some o=>exact absurd hx (hs4 x o hsx).2.1
   exact(vws_same (vws_same (vws_same (vws_same (vws_same (vws_cons hv By)))))).2
end
def BK(σ:St)(t:Nat)(B:List De):Prop:=σ t=some (.cells [.sl 6 (deC B),boo true])
def bkC(B:List De):B7:=.cells [.sl 6 (deC B),boo true]
structure BOk(B:List De):Prop where
 rises:C4 Bf B
 len:B.length≤900000000000
 sm:∀d∈B,d.Sm
section
variable{σ:St}{t:Nat}{B:List De}
theorem Ai6:AT Tryz.prog 52 [] σ fun r σ'=>∃b,σ b=none∧r=ptr b∧σ'=σ.set b (bkC []):=by
 refine AT.ob Tryz.func52 rfl ?_;simp only[go_sem];refine Ax fun b hb hbn=>?_;simp only[go_sem];refine Af (r:=ptr b) rfl (ptr b) (σ.set b (bkC [])) ?_ ⟨b,hb,rfl,rfl⟩;have hS:SV (σ.set b (.cells [A0,boo true])) (σ.set b (bkC [])):=K3 Ab (show OW _ _ (.cells _) (.cells _)from vws_cons (.nil 6) (Ca _)) fun x p hx hp=>by rw[Ag hx];exact hp
 exact view_of hS (.refl _)
theorem Ke(h:BK σ t B):AT Tryz.prog 121 [ptr t] σ fun r σ'=>r=boo false∧σ'=σ:=by
 refine AT.ob Tryz.func121 rfl ?_;unfold BK at h;simp only[go_sem,h,Bool.not_true];exact Ad (r:=boo _) rfl ⟨rfl,rfl⟩
theorem Ai5(h:BK σ t B)(hB:BOk B)(d:De)(hd:d.Sm):AT Tryz.prog 107 [ptr t,.agg d.cs] σ fun r σ'=>r=boo (!decide (d∈B))∧σ'=σ.set t (bkC (Bd Bf d B)):=by
 refine AT.ob Tryz.func107 rfl ?_;simp only[go_sem];refine Ctx.nil.alloc fun p σ1 c1=>?_;have hp:=c1.g0;have hs:=c1.sub;have h1:BK σ1 t B:=hs _ _ h;clear c1;simp only[go_sem];refine(Ke h1).mono ?_;rintro _ σ1 ⟨rfl,rfl⟩;have hT':=h1;unfold BK at hT';simp only[go_sem];refine Ae [.rd 0 false,.rd 1 false,.rd 2 false,.rd 3 true,.rd 4 true,.ef 5 [],.rd 6 false,.rd 7 false,.rd 8 false,.rd 9 false,.rd 10 false] ?_;simp only[go_sem,hp,hT'];have tlen:=hB.len;refine(BD.bsearch_at B d (by omega) hB.sm hd hB.rises .sl).mono ?_;rintro _ σ1 ⟨⟨k,rfl,hk1,hk2,hk3⟩,rfl⟩;have hins:=Hx (c:=Bf) hk1 hk2 hk3;by_cases hm:d∈B
 ·have d3:=decide_eq_true hm
  simp only[go_sem,d3,Bool.not_true];have e:Bd Bf d B=B:=by
   obtain⟨h,e,_⟩:=BD.erase_at hB.rises hk1 hk2 hk3 hm;rw[if_pos ⟨h,(A7.zero _ _).2 e⟩]at hins;exact hins
  exact Af (r:=boo false) rfl _ σ (Aq hs) ⟨rfl,by rw[e];exact(Bp h).symm⟩
 ·have d3:=decide_eq_false hm
  simp only[go_sem,d3,Bool.not_false];refine Ae [.rd 0 false,.rd 1 false,.rd 2 false,.rd 3 false,.rd 4 true,.rd 6 false,.rd 7 true,.ef 5 [7],.ef 8 [],.rd 9 false,.ef 10 [],.rd 11 false,.rd 12 false,.ef 13 []] ?_;simp only[go_sem,hT',hp];refine(BD.clone_at B (by omega)).mono ?_;rintro v σ2 ⟨hO,hG⟩;have hp2:=(hG _ _ hp).1;have ht2:=(hG _ _ hT').1;simp only[go_sem];refine⟨fun k hk=>?_,(Aah d hd).mono ?_⟩
  ·simp only[go_sem,hp2]
   exact hk
  rintro _ σ2 ⟨rfl,rfl⟩;simp only[go_sem];refine(BD.insert_at B d k hk1 (by omega) hO).mono ?_;rintro r σ3 ⟨hO3,hK⟩;have hL:=hO3.lat;rw[if_neg (fun⟨h,e⟩=>hm (by rw[←(A7.zero _ _).1 e];exact List.getElem_mem h))]at hins;rw[←hins]at hL;have ht3:=(hK _ _ ht2 (hG _ _ hT').2);simp only[go_sem,ht3.1,hL.one,hL.cells];refine Af (r:=boo true) rfl (boo true) (σ.set t (bkC (Bd Bf d B))) ?_ ⟨rfl,rfl⟩;refine Jd (lv:=r) Ab h (hL.keep fun y o hy ho=>?_) fun y o hyt hy=>?_
  ·rw[Ag (fun e=>by rw[e]at ho;exact ht3.2 ho)];exact hy
  ·have h2:=hG _ _ (hs _ _ hy)
   have h3:=hK _ _ h2.1 h2.2;exact⟨by rw[Ag hyt];exact h3.1,h3.2⟩
theorem Afs(h:BK σ t B)(hB:BOk B)(d:De)(hd:d.Sm):AT Tryz.prog 79 [ptr t,.agg d.cs] σ fun r σ'=>r=boo (decide (d∈B))∧σ'=σ.set t (bkC (B.filter fun x=>!decide (x=d))):=by
 refine AT.ob Tryz.func79 rfl ?_;simp only[go_sem];refine Ctx.nil.alloc fun p σ1 c1=>?_;have hp:=c1.g0;have hs:=c1.sub;have h1:BK σ1 t B:=hs _ _ h;clear c1;simp only[go_sem];refine(Ke h1).mono ?_;rintro _ σ1 ⟨rfl,rfl⟩;have hT':=h1;unfold BK at hT';simp only[go_sem];refine Ae [.rd 0 false,.rd 1 false,.rd 2 false,.rd 3 true,.rd 4 true,.ef 5 [],.rd 6 false,.rd 7 false,.rd 8 false,.rd 9 false,.rd 10 false] ?_;simp only[go_sem,hp,hT'];have tlen:=hB.len;refine(BD.bsearch_at B d (by omega) hB.sm hd hB.rises .sl).mono ?_;rintro _ σ1 ⟨⟨k,rfl,hk1,hk2,hk3⟩,rfl⟩;by_cases hm:d∈B
 case neg=>
  have d3:=decide_eq_false hm;simp only[go_sem,d3];have e:(B.filter fun x=>!decide (x=d))=B:=List.filter_eq_self.2 fun x hx=>by
   have:x≠d:=fun e=>hm (e▸hx);simpa using this
  exact Af (r:=boo false) rfl _ σ (Aq hs) ⟨rfl,by rw[e];exact(Bp h).symm⟩
 have d3:=decide_eq_true hm;obtain⟨hkl,_,her⟩:=BD.erase_at hB.rises hk1 hk2 hk3 hm;simp only[go_sem,d3,hT'];refine(BD.clone_at B (by omega)).mono ?_;rintro v σ2 ⟨hO,hG⟩;have ht2:=(hG _ _ hT').1;simp only[go_sem,Ai (show k<9223372036854775807 by omega)];refine(BD.delete_at B k hkl (by omega) hO).mono ?_;rintro r σ3 ⟨hO3,hK⟩;have hL:=hO3.lat;rw[her]at hL;have ht3:=(hK _ _ ht2 (hG _ _ hT').2);simp only[go_sem,ht3.1,hL.one,hL.cells];refine Af (r:=boo true) rfl (boo true) (σ.set t (bkC (B.filter fun x=>!decide (x=d)))) ?_ ⟨rfl,rfl⟩;refine Jd (lv:=r) Ab h (hL.keep fun y o hy ho=>?_) fun y o hyt hy=>?_
 ·rw[Ag (fun e=>by rw[e]at ho;exact ht3.2 ho)];exact hy
 ·have h2:=hG _ _ (hs _ _ hy)
  have h3:=hK _ _ h2.1 h2.2;exact⟨by rw[Ag hyt];exact h3.1,h3.2⟩
end
theorem Ia{α:Type}{p:α→Bool}{l:List α}{j:Nat}(h:j<l.length):(l.take (j+1)).filter p=(l.take j).filter p++(if p l[j]=true then[l[j]]else[]):=by
 rw[List.take_add_one,List.getElem?_eq_getElem h,List.filter_append];cases hb:p l[j]<;>simp[hb]
theorem Mk{α:Type}{p:α→Bool}{l:List α}{j:Nat}:((l.take j).filter p).length≤l.length:=Nat.le_trans (List.length_filter_le _ _) (by rw[List.length_take];omega)
section
variable{σ:St}{t g c:Nat}{B:List De}
theorem Adg(h:BK σ t B)(hB:BOk B)(p:De→Bool)(hC:∀σ',(∀x o,σ x=some o→σ' x=some o)→∀d∈B,AT Tryz.prog g [.agg d.cs,ptr c] σ' fun r σ''=>r=boo (p d)∧σ''=σ'):AT Tryz.prog 124 [ptr t,clo g c] σ fun r σ'=>r= .sl 6 (deC (B.filter p))∧σ'=σ:=by
 have hm:AT Tryz.prog 124 [ptr t,clo g c] σ fun r σ'=>LAt 6 σ' r (deC (B.filter p))∧Cd σ σ' r:=by
  refine AT.ob Tryz.func124 rfl ?_;simp only[go_sem];refine(Ke h).mono ?_;rintro _ σ ⟨rfl,rfl⟩;have h0:=h;unfold BK at h0;have tlen:=hB.len;simp only[go_sem,Aa,h0,At];refine⟨fun m fr σ'=>∃(i:Nat) (lv:AV),m=B.length-i∧i≤B.length∧LAt 6 σ' lv (deC ((B.take i).filter p))∧Cd σ σ' lv∧fr 1=clo g c∧fr 5=lv∧fr 13= .sl 6 (deC B)∧fr 14=int B.length∧fr 15=int i,⟨_,0,A0,rfl,by omega,.none,.nil,rfl,rfl,rfl,rfl,rfl⟩,?_⟩;rintro m fr σ1 ⟨i,lv,rfl,hi,hL,hG,f1,f5,f13,f14,f15⟩;simp only[go_sem,f14,f15];refine aIf_by (fun hlt=>?_) (fun hlt=>?_)
  ·have hil:i<B.length:=by omega
   have hdm:=List.getElem_mem hil;have hf:=Ia (p:=p) hil;have hfl:=Mk (p:=p) (l:=B) (j:=i);simp only[go_sem,Aa,f13,f15,Bv hil,At];refine⟨by omega,Ctx.nil.alloc fun q σ2 c2=>?_⟩;obtain⟨σ3,e3,c3⟩:=c2.abs 0 rfl (.cells B[i].cs);have hq:=c3.g0;have hs3:=c3.sub;simp only at hq;have hG3:Cd σ σ3 lv:=fun y o hy=>⟨hs3 _ _ (hG y o hy).1,(hG y o hy).2⟩;have hL3:LAt 6 σ3 lv (deC ((B.take i).filter p)):=hL.keep fun y o hy _=>hs3 y o hy;simp only[go_sem,Aa,c2.g0,e3,f1,hq];clear e3 c3 c2;refine(hC σ3 hG3.sub _ hdm).mono ?_;rintro _ σ3 ⟨rfl,rfl⟩;cases hp:p B[i]with
   |false=>
    rw[hp,if_neg (by simp),List.append_nil]at hf;rw[←hf]at hL3;simp only[go_sem,Aa,f1,f5,f13,f14,f15,Ai (show i<9223372036854775807 by omega)];refine⟨B.length-(i+1),by omega,i+1,lv,?_⟩
    (and_intros<;>first|assumption|rfl|omega)
   |true=>
    rw[hp,if_pos rfl]at hf;simp only[go_sem,Aa,f5,hq];refine(Aah B[i] (hB.sm _ hdm)).mono ?_;rintro _ σ3 ⟨rfl,rfl⟩;simp only[go_sem,Aa,f5];refine As (ys:=[B[i].cs]) (by rfl) (by decide) (by decide) (by decide) (hL3.app (by rw[At];simp only[List.length_cons,List.length_nil];omega) fun lv' σ4 h1 h2=>?_);rw[show deC ((B.take i).filter p)++[B[i].cs]=deC ((B.take (i+1)).filter p) by rw[hf];simp[deC]]at h1;have hG4:=hG3.step h2;simp only[go_sem,Aa,f1,f13,f14,f15,Ai (show i<9223372036854775807 by omega)];refine⟨B.length-(i+1),by omega,i+1,lv',?_⟩
    (and_intros<;>first|assumption|rfl|omega)
  ·rw[List.take_of_length_le (by omega)]at hL
   simp only[go_sem,Aa,f5];exact Ad (r:=lv) rfl ⟨hL,hG⟩
 exact hm.post (by kernel_rfl) fun r σ' ⟨h1,h2⟩=>⟨_,_,Fs h1 h2,rfl,rfl⟩
theorem Aoc(f:Fa)(d:De)(hf:f.Sm)(hd:d.Sm)(hc:σ c=some (.cells f.cs)):AT Tryz.prog 125 [.agg d.cs,ptr c] σ fun r σ'=>r=boo (decide (d.hd=f))∧σ'=σ:=by
 refine AT.ob Tryz.func125 rfl ?_;simp only[go_sem];refine Ctx.nil.alloc fun p σ1 c1=>?_;simp only[go_sem,c1.g0,c1.sub _ _ hc];refine(Ih d.hd f hd.1 hf).mono ?_;rintro _ σ1 ⟨rfl,rfl⟩;simp only[go_sem];exact Af (r:=boo _) rfl _ σ (c1.view _) ⟨by rw[decide_eq_decide.2 (An.zero d.hd f)],rfl⟩
def ofF(B:List De)(f:Fa):List De:=B.filter fun d=>decide (d.hd=f)
theorem Acw(h:BK σ t B)(hB:BOk B)(f:Fa)(hf:f.Sm):AT Tryz.prog 72 [ptr t,.agg f.cs] σ fun r σ'=>r= .sl 6 (deC (ofF B f))∧σ'=σ:=by
 refine AT.ob Tryz.func72 rfl ?_;simp only[go_sem];refine Ctx.nil.alloc fun p σ1 c1=>?_;simp only[go_sem];simp only[Eh,Cv];simp only[go_sem];refine(Adg (show BK σ1 t B from c1.sub _ _ h) hB (fun d=>decide (d.hd=f)) fun σ' hs d hd=>Aoc f d hf (hB.sm d hd) (hs _ _ c1.g0)).mono ?_;rintro _ σ1 ⟨rfl,rfl⟩;simp only[go_sem];exact Af (r:=.sl 6 _) rfl _ σ (c1.view _) ⟨rfl,rfl⟩
theorem Aiw(f:Fa)(d:De)(hf:f.Sm)(hd:d.Sm)(hc:σ c=some (.cells f.cs)):AT Tryz.prog 134 [.agg d.cs,ptr c] σ fun r σ'=>r=boo (decide (f∈d.bo))∧σ'=σ:=by
 refine AT.ob Tryz.func134 rfl ?_;simp only[go_sem];refine Ctx.nil.alloc fun p σ1 c1=>?_;simp only[go_sem,c1.g0,c1.sub _ _ hc];refine(Ace d.bo f hd.2.1 hd.2.2 hf).mono ?_;rintro _ σ1 ⟨rfl,rfl⟩;simp only[go_sem];exact Af (r:=boo _) rfl _ σ (c1.view _) ⟨rfl,rfl⟩
def useF(B:List De)(f:Fa):List De:=B.filter fun d=>decide (f∈d.bo)
theorem Al9(h:BK σ t B)(hB:BOk B)(f:Fa)(hf:f.Sm):AT Tryz.prog 78 [ptr t,.agg f.cs] σ fun r σ'=>r= .sl 6 (deC (useF B f))∧σ'=σ:=by
 refine AT.ob Tryz.func78 rfl ?_;simp only[go_sem];refine Ctx.nil.alloc fun p σ1 c1=>?_;simp only[go_sem];simp only[Eh,Cv];simp only[go_sem];refine(Adg (show BK σ1 t B from c1.sub _ _ h) hB (fun d=>decide (f∈d.bo)) fun σ' hs d hd=>Aiw f d hf (hB.sm d hd) (hs _ _ c1.g0)).mono ?_;rintro _ σ1 ⟨rfl,rfl⟩;simp only[go_sem];exact Af (r:=.sl 6 _) rfl _ σ (c1.view _) ⟨rfl,rfl⟩
def hdsF(B:List De):List Fa:=Ba Ar [] (B.map De.hd)
theorem Ag1(h:BK σ t B)(hB:BOk B):AT Tryz.prog 64 [ptr t] σ fun v σ'=>Made σ σ' v (hdsF B):=by
 refine AT.ob Tryz.func64 rfl ?_;simp only[go_sem];refine(Ke h).mono ?_;rintro _ σ ⟨rfl,rfl⟩;have h0:=h;unfold BK at h0;have tlen:=hB.len;simp only[go_sem,Aa,h0,At];refine⟨fun m fr σ'=>∃(i:Nat) (lv:AV),m=B.length-i∧i≤B.length∧LAt 4 σ' lv (faC ((B.take i).map De.hd))∧Cd σ σ' lv∧fr 3=lv∧fr 11= .sl 6 (deC B)∧fr 12=int B.length∧fr 13=int i,⟨_,0,A0,rfl,by omega,.none,.nil,rfl,rfl,rfl,rfl⟩,?_⟩;rintro m fr σ1 ⟨i,lv,rfl,hi,hL,hG,f3,f11,f12,f13⟩;simp only[go_sem,f12,f13];refine aIf_by (fun hlt=>?_) (fun hlt=>?_)
 ·have hil:i<B.length:=by omega
  simp only[go_sem,Aa,f11,f13,Bv hil,At];refine⟨by omega,Ctx.nil.alloc fun q σ2 c2=>?_⟩;obtain⟨σ3,e3,c3⟩:=c2.abs 0 rfl (.cells B[i].cs);have hq:=c3.g0;have hs3:=c3.sub;simp only at hq;have hG3:Cd σ σ3 lv:=fun y o hy=>⟨hs3 _ _ (hG y o hy).1,(hG y o hy).2⟩;have hL3:LAt 4 σ3 lv (faC ((B.take i).map De.hd)):=hL.keep fun y o hy _=>hs3 y o hy;simp only[go_sem,Aa,c2.g0,e3,f3,hq];clear e3 c3 c2;refine As (ys:=[B[i].hd.cs]) (by rfl) (by decide) (by decide) (by decide) (hL3.app (by rw[Am,List.length_map,List.length_take];simp only[List.length_cons,List.length_nil];omega) fun lv' σ4 h1 h2=>?_);rw[show faC ((B.take i).map De.hd)++[B[i].hd.cs]=faC ((B.take (i+1)).map De.hd) by rw[List.take_add_one,List.getElem?_eq_getElem hil,List.map_append];unfold faC;rw[List.map_append];rfl]at h1;have hG4:=hG3.step h2;simp only[go_sem,Aa,f11,f12,f13,Ai (show i<9223372036854775807 by omega)];refine⟨B.length-(i+1),by omega,i+1,lv',?_⟩
  (and_intros<;>first|assumption|rfl|omega)
 ·rw[List.take_of_length_le (by omega)]at hL
  simp only[go_sem,Aa,f3];refine(H8 (B.map De.hd) (.of hL) (by rw[List.length_map];omega) fun f hf=>?_).mono ?_
  ·obtain⟨d,hd,rfl⟩:=List.mem_map.1 hf
   exact(hB.sm d hd).1
  rintro v σ2 ⟨k1,k2,k3⟩;simp only[go_sem];exact Ad (r:=v) rfl ⟨k1,fun y o hy=>k2 _ _ (hG y o hy).1,fun y hy=>Ct hG.sub (k3 y hy)⟩
end
section
variable{σ:St}
theorem H6(x y:De)(hx:x.Sm)(hy:y.Sm):AT Tryz.prog 71 [.agg x.cs,.agg y.cs] σ fun r σ'=>r=int (Bf x y)∧σ'=σ:=by
 refine AT.ob Tryz.func71 rfl ?_;simp only[go_sem];refine Ctx.nil.alloc fun p σ1 c1=>?_;simp only[go_sem];refine c1.alloc fun q σ2 c2=>?_;have hq:=c2.g1.1.1;have hp:=c2.g1.1.2;have hs:=c2.sub;clear c1 c2;have out:∀{k:Int},Bf x y=k→∀{fr:Fr},Bb Tryz.prog fr σ2 (Tryz.f71).results.toList=some (int k)→D3 Tryz.prog (fun r σ'=>r=int (Bf x y)∧σ'=σ) (Tryz.f71).results.toList fr σ2:=fun e _ hr=>
  Af hr _ σ (Aq hs) ⟨by rw[e],rfl⟩
 by_cases h1:x.ru<y.ru
 ·have d1:=decide_eq_true h1
  simp only[go_sem,hp,hq,d1];refine out ?_ rfl;unfold Bf;rw[show Hb x.ru y.ru= -1 by unfold Hb;rw[if_pos h1]];rfl
 have d1:=decide_eq_false h1;by_cases h2:y.ru<x.ru
 ·have d2:=decide_eq_true h2
  simp only[go_sem,hp,hq,d1,d2];refine out ?_ rfl;unfold Bf;rw[show Hb x.ru y.ru=1 by unfold Hb;rw[if_neg h1,if_neg (by omega)]];rfl
 have d2:=decide_eq_false h2;have hT:Bf x y=orI [Ar x.hd y.hd,Ed x.bo y.bo]:=by
  unfold Bf;rw[show Hb x.ru y.ru=0 by unfold Hb;rw[if_neg h1,if_pos (by omega)]];rfl
 obtain⟨hx1,hx2,hx3⟩:=hx;obtain⟨hy1,hy2,hy3⟩:=hy;simp only[go_sem,hp,hq,d1,d2];refine(Eu (x:=x.hd) (y:=y.hd) .cs .cs hx1 hy1).mono ?_;rintro _ σ2 ⟨rfl,rfl⟩;simp only[go_sem,Aa];refine⟨fun m fr σ'=>∃(i:Nat) (c:Int),m=x.bo.length-i∧i≤x.bo.length∧i≤y.bo.length∧σ'=σ2∧(c=0→Bf x y=Do Ar (x.bo.drop i) (y.bo.drop i))∧(c≠0→Bf x y=c)∧fr 2=ptr p∧fr 3=ptr q∧fr 5=int c∧fr 6=int i,⟨_,0,Ar x.hd y.hd,rfl,by omega,by omega,rfl,fun h=>?_,fun h=>?_,rfl,rfl,rfl,rfl⟩,?_⟩
 ·rw[hT,h]
  show(if(0:Int)=0 then(if Ed x.bo y.bo=0 then 0 else Ed x.bo y.bo)else 0)=Ed x.bo y.bo;rw[if_pos rfl];by_cases e:Ed x.bo y.bo=0
  ·rw[if_pos e,e]
  ·rw[if_neg e]
 ·rw[hT];simp only[orI];rw[if_neg h]
 rintro m fr σ2 ⟨i,c,rfl,hi1,hi2,rfl,hI,hJ,f2,f3,f5,f6⟩;by_cases hc:c=0
 case neg=>
  have d3:=decide_eq_false hc;simp only[go_sem,Aa,f5,d3];exact out (hJ hc) rfl
 have hK:=hI hc;clear hI hJ;subst hc;have d0:decide ((0:Int)=0)=true:=rfl;by_cases g:i<x.bo.length∧i<y.bo.length
 ·obtain⟨g1,g2⟩:=g
  rw[Lc g1 g2]at hK;have d3:=decide_eq_true (show(i:Int)<x.bo.length by omega);have d4:=decide_eq_true (show(i:Int)<y.bo.length by omega);simp only[go_sem,Aa,f2,f3,f5,f6,hp,hq,d0,d3,d4,Am];refine Ae [.rd 0 false,.rd 1 true,.rd 2 false,.rd 3 false,.rd 4 true,.rd 5 false,.rd 6 true,.rd 7 false,.rd 8 false,.rd 9 true,.ef 10 [],.rd 11 false] ?_;simp only[go_sem,Aa,f2,f3,f6,hp,hq,Au g1,Au g2,Am];refine⟨by omega,by omega,(Eu (x:=x.bo[i]) (y:=y.bo[i]) .cs .cs (hx3 _ (List.getElem_mem g1)) (hy3 _ (List.getElem_mem g2))).mono ?_⟩;rintro _ σ2 ⟨rfl,rfl⟩;simp only[go_sem,Aa,f2,f3,f6,Ai (show i<9223372036854775807 by omega)];exact⟨x.bo.length-(i+1),by omega,i+1,Ar x.bo[i] y.bo[i],rfl,by omega,by omega,fun h=>by rw[hK,if_pos h],fun h=>by rw[hK,if_neg h],rfl,rfl⟩
 ·rw[Kh hi1 hi2 g]at hK
  by_cases g1:i<x.bo.length
  ·have d3:=decide_eq_true (show(i:Int)<x.bo.length by omega)
   have d4:=decide_eq_false (show¬(i:Int)<y.bo.length by omega);have d5:=decide_eq_false (show¬(x.bo.length:Int)<y.bo.length by omega);have d6:=decide_eq_true (show(y.bo.length:Int)<x.bo.length by omega);rw[if_neg (by omega),if_pos (by omega)]at hK;simp only[go_sem,Aa,f2,f3,f5,f6,hp,hq,d0,d3,d4,d5,d6,Am];exact out hK rfl
  ·have d3:=decide_eq_false (show¬(i:Int)<x.bo.length by omega)
   by_cases g2:x.bo.length<y.bo.length
   ·have d5:=decide_eq_true (show(x.bo.length:Int)<y.bo.length by omega)
    rw[if_pos (by omega)]at hK;simp only[go_sem,Aa,f2,f3,f5,f6,hp,hq,d0,d3,d5,Am];exact out hK rfl
   ·have d5:=decide_eq_false (show¬(x.bo.length:Int)<y.bo.length by omega)
    have d6:=decide_eq_false (show¬(y.bo.length:Int)<x.bo.length by omega);rw[if_neg (by omega),if_neg (by omega)]at hK;simp only[go_sem,Aa,f2,f3,f5,f6,hp,hq,d0,d3,d5,d6,Am];exact out hK rfl
theorem Ae2(a b:List De)(sa:a.length≤1000000000000)(sa':∀x∈a,x.Sm)(sb:b.length≤1000000000000)(sb':∀x∈b,x.Sm):AT Tryz.prog 32 [.sl 6 (deC a),.sl 6 (deC b)] σ fun r σ'=>r=boo (decide (a=b))∧σ'=σ:=by
 refine AT.ob Tryz.func32 rfl ?_;by_cases hl:a.length=b.length
 ·have d:=decide_eq_true (show(a.length:Int)=b.length by omega)
  simp only[go_sem,At,d];refine⟨fun m fr σ'=>∃i:Nat,m=a.length-i∧i≤a.length∧σ'=σ∧a.take i=b.take i∧fr 0= .sl 6 (deC a)∧fr 1= .sl 6 (deC b)∧fr 5=int i,⟨_,0,rfl,by omega,rfl,rfl,rfl,rfl,rfl⟩,?_⟩;rintro m fr σ ⟨i,rfl,hi,rfl,hI,f0,f1,f5⟩;simp only[go_sem,f0,f5,At];refine aIf_by (fun hlt=>?_) (fun hlt=>?_)
  ·have hia:i<a.length:=by omega
   have hib:i<b.length:=by omega
   simp only[go_sem,Aa];refine Ae [.rd 0 false,.rd 1 false,.rd 2 false,.rd 3 true,.rd 4 false,.rd 5 false,.rd 6 false,.rd 7 true,.ef 8 [],.rd 9 false] ?_;simp only[go_sem,Aa,f0,f1,f5,Bv hia,Bv hib,At];refine⟨by omega,by omega,(H6 a[i] b[i] (sa' _ (List.getElem_mem hia)) (sb' _ (List.getElem_mem hib))).mono ?_⟩;rintro _ σ ⟨rfl,rfl⟩;by_cases h0:Bf a[i] b[i]=0
   ·have e:=(A7.zero _ _).1 h0
    simp only[go_sem,Aa,decide_eq_true h0,Bool.not_true,f5,Ai (show i<9223372036854775807 by omega)];refine⟨a.length-(i+1),by omega,i+1,rfl,by omega,?_,f0,f1,rfl⟩;rw[List.take_add_one,List.take_add_one,List.getElem?_eq_getElem hia,List.getElem?_eq_getElem hib,hI,e]
   ·have hne:a≠b:=fun e=>h0 ((A7.zero _ _).2 (List.getElem_of_eq e hia))
    simp only[go_sem,Aa,decide_eq_false h0,Bool.not_false];exact Ad (r:=boo false) rfl ⟨by rw[decide_eq_false hne],rfl⟩
  ·simp only[go_sem,Aa]
   rw[List.take_of_length_le (by omega),List.take_of_length_le (by omega)]at hI;exact Ad (r:=boo true) rfl ⟨by rw[decide_eq_true hI],rfl⟩
 ·have d:=decide_eq_false (show¬(a.length:Int)=b.length by omega)
  simp only[go_sem,At,d];exact Ad (r:=boo false) rfl ⟨by rw[decide_eq_false fun e=>hl (by rw[e])],rfl⟩
theorem Alm(a b:List Fa)(sa:a.length≤1000000000000)(sa':∀x∈a,x.Sm)(sb:b.length≤1000000000000)(sb':∀x∈b,x.Sm):AT Tryz.prog 152 [.sl 4 (faC a),.sl 4 (faC b)] σ fun r σ'=>r=boo (decide (∀x∈a,x∈b))∧σ'=σ:=by
 refine AT.ob Tryz.func152 rfl ?_;simp only[go_sem];refine⟨fun m fr σ'=>∃i:Nat,m=a.length-i∧i≤a.length∧σ'=σ∧(∀x∈a.take i,x∈b)∧fr 0= .sl 4 (faC a)∧fr 1= .sl 4 (faC b)∧fr 5=int i,⟨_,0,rfl,by omega,rfl,by simp,rfl,rfl,rfl⟩,?_⟩;rintro m fr σ ⟨i,rfl,hi,rfl,hI,f0,f1,f5⟩;simp only[go_sem,f0,f5,Am];refine aIf_by (fun hlt=>?_) (fun hlt=>?_)
 ·have hia:i<a.length:=by omega
  simp only[go_sem,Aa,f0,f1,f5,Au hia,Am];refine⟨by omega,(Ds b a[i] sb sb' (sa' _ (List.getElem_mem hia))).mono ?_⟩;rintro _ σ ⟨rfl,rfl⟩;by_cases hm:a[i]∈b
  ·simp only[go_sem,Aa,decide_eq_true hm,Bool.not_true,f5,Ai (show i<9223372036854775807 by omega)]
   refine⟨a.length-(i+1),by omega,i+1,rfl,by omega,fun x hx=>?_,f0,f1,rfl⟩;rw[List.take_add_one,List.getElem?_eq_getElem hia]at hx;rcases List.mem_append.1 hx with hx|hx
   ·exact hI x hx
   ·simp at hx;rw[hx];exact hm
  ·simp only[go_sem,Aa,decide_eq_false hm,Bool.not_false]
   exact Ad (r:=boo false) rfl ⟨by rw[decide_eq_false fun h=>hm (h _ (List.getElem_mem hia))],rfl⟩
 ·simp only[go_sem,Aa]
  rw[List.take_of_length_le (by omega)]at hI;exact Ad (r:=boo true) rfl ⟨by rw[decide_eq_true hI],rfl⟩
end
def RK(σ:St)(t:Nat)(B:List De):Prop:=σ t=some (.cells [.sl 6 (deC B)])
def rkC(B:List De):B7:=.cells [.sl 6 (deC B)]
section
variable{σ:St}{t:Nat}{B:List De}
theorem Aaw(h:RK σ t B)(hB:BOk B)(f:Fa)(hf:f.Sm):AT Tryz.prog 34 [ptr t,.agg f.cs] σ fun r σ'=>r= .sl 6 (deC (ofF B f))∧σ'=σ:=by
 have hm:AT Tryz.prog 34 [ptr t,.agg f.cs] σ fun r σ'=>LAt 6 σ' r (deC (ofF B f))∧Cd σ σ' r:=by
  refine AT.ob Tryz.func34 rfl ?_;have hbl:=hB.len;simp only[go_sem];refine Ctx.nil.alloc fun p σ1 c1=>?_;have hp:=c1.g0;have h1:σ1 t=some (.cells [.sl 6 (deC B)]):=c1.sub _ _ h;have hs:=c1.sub;simp only[go_sem,Aa];refine⟨fun m fr σ'=>∃(i:Nat) (lv:AV),m=B.length-i∧i≤B.length∧LAt 6 σ' lv (deC ((B.take i).filter fun d=>decide (d.hd=f)))∧Cd σ1 σ' lv∧fr 0=ptr t∧fr 3=ptr p∧fr 5=lv∧fr 6=int i,⟨_,0,A0,rfl,by omega,.none,.nil,rfl,rfl,rfl,rfl⟩,?_⟩;rintro m fr σ2 ⟨i,lv,rfl,hi,hL,hG,f0,f3,f5,f6⟩;have h2:=(hG _ _ h1).1;have hp2:=(hG _ _ hp).1;simp only[go_sem,f0,f6,h2,At];refine aIf_by (fun hlt=>?_) (fun hlt=>?_)
  ·have hil:i<B.length:=by omega
   have hsm:=hB.sm _ (List.getElem_mem hil);have et:=Ia (p:=fun d:De=>decide (d.hd=f)) hil;have nx:=Ai (show i<9223372036854775807 by omega);simp only[go_sem,Aa];refine Ae [.rd 0 false,.rd 1 false,.rd 2 false,.rd 3 true,.rd 4 false,.rd 5 false,.rd 6 false,.rd 7 true,.rd 8 true,.ef 9 [],.rd 10 false] ?_;simp only[go_sem,Aa,f0,f3,f6,h2,hp2,Bv hil,At];refine⟨by omega,(Eu (x:=B[i].hd) (y:=f) .cs .cs hsm.1 hf).mono ?_⟩;rintro _ σ2 ⟨rfl,rfl⟩;by_cases h0:Ar B[i].hd f=0
   ·have e:=(An.zero _ _).1 h0
    rw[if_pos (decide_eq_true e)]at et;have tl:((B.take i).filter fun d=>decide (d.hd=f)).length≤B.length:=Mk;simp only[go_sem,Aa,decide_eq_true h0,f0,f5,f6,h2,Bv hil,At];refine⟨by omega,?_⟩;refine As (ys:=[B[i].cs]) rfl (by decide) (by decide) (by decide) (hL.app (by rw[At];simp only[List.length_cons,List.length_nil];omega) fun lv' σ5 hL5 hs5=>?_);have e5:deC ((B.take i).filter fun d=>decide (d.hd=f))++[B[i].cs]=deC ((B.take (i+1)).filter fun d=>decide (d.hd=f)):=by rw[et];simp[deC]
    rw[e5]at hL5;simp only[go_sem,Aa,f6,nx];exact⟨B.length-(i+1),by omega,i+1,lv',rfl,by omega,hL5,hG.step hs5,f0,f3,rfl,rfl⟩
   ·have e:¬B[i].hd=f:=fun e=>h0 ((An.zero _ _).2 e)
    rw[if_neg (by simpa using e),List.append_nil]at et;simp only[go_sem,Aa,decide_eq_false h0,f6,nx];exact⟨B.length-(i+1),by omega,i+1,lv,rfl,by omega,by rw[et];exact hL,hG,f0,f3,f5,rfl⟩
  ·rw[List.take_of_length_le (by omega)]at hL
   simp only[go_sem,Aa,f5];exact Ad (r:=lv) rfl ⟨hL,fun y o hy=>hG y o (hs y o hy)⟩
 exact hm.post (by kernel_rfl) fun r σ' ⟨h1,h2⟩=>⟨_,_,Fs h1 h2,rfl,rfl⟩
theorem Aio(h:RK σ t B)(hB:BOk B)(f:Fa)(hf:f.Sm):AT Tryz.prog 91 [ptr t,.agg f.cs] σ fun r σ'=>r= .sl 6 (deC (useF B f))∧σ'=σ:=by
 have hm:AT Tryz.prog 91 [ptr t,.agg f.cs] σ fun r σ'=>LAt 6 σ' r (deC (useF B f))∧Cd σ σ' r:=by
  refine AT.ob Tryz.func91 rfl ?_;have hbl:=hB.len;simp only[go_sem];refine Ctx.nil.alloc fun p σ1 c1=>?_;have hp:=c1.g0;have h1:σ1 t=some (.cells [.sl 6 (deC B)]):=c1.sub _ _ h;have hs:=c1.sub;simp only[go_sem,Aa];refine⟨fun m fr σ'=>∃(i:Nat) (lv:AV),m=B.length-i∧i≤B.length∧LAt 6 σ' lv (deC ((B.take i).filter fun d=>decide (f∈d.bo)))∧Cd σ1 σ' lv∧fr 0=ptr t∧fr 3=ptr p∧fr 5=lv∧fr 6=int i,⟨_,0,A0,rfl,by omega,.none,.nil,rfl,rfl,rfl,rfl⟩,?_⟩;rintro m fr σ2 ⟨i,lv,rfl,hi,hL,hG,f0,f3,f5,f6⟩;have h2:=(hG _ _ h1).1;have hp2:=(hG _ _ hp).1;simp only[go_sem,f0,f6,h2,At];refine aIf_by (fun hlt=>?_) (fun hlt=>?_)
  ·have hil:i<B.length:=by omega
   have hsm:=hB.sm _ (List.getElem_mem hil);have et:=Ia (p:=fun d:De=>decide (f∈d.bo)) hil;have nx:=Ai (show i<9223372036854775807 by omega);simp only[go_sem,Aa];refine Ae [.rd 0 false,.rd 1 false,.rd 2 false,.rd 3 true,.rd 4 false,.rd 5 false,.rd 6 false,.rd 7 true,.rd 8 true,.ef 9 []] ?_;simp only[go_sem,Aa,f0,f3,f6,h2,hp2,Bv hil,At];refine⟨by omega,(Ds B[i].bo f hsm.2.1 hsm.2.2 hf).mono ?_⟩;rintro _ σ2 ⟨rfl,rfl⟩;by_cases e:f∈B[i].bo
   ·rw[if_pos (decide_eq_true e)]at et
    have tl:((B.take i).filter fun d=>decide (f∈d.bo)).length≤B.length:=Mk;simp only[go_sem,Aa,decide_eq_true e,f0,f5,f6,h2,Bv hil,At];refine⟨by omega,?_⟩;refine As (ys:=[B[i].cs]) rfl (by decide) (by decide) (by decide) (hL.app (by rw[At];simp only[List.length_cons,List.length_nil];omega) fun lv' σ5 hL5 hs5=>?_);have e5:deC ((B.take i).filter fun d=>decide (f∈d.bo))++[B[i].cs]=deC ((B.take (i+1)).filter fun d=>decide (f∈d.bo)):=by rw[et];simp[deC]
    rw[e5]at hL5;simp only[go_sem,Aa,f6,nx];exact⟨B.length-(i+1),by omega,i+1,lv',rfl,by omega,hL5,hG.step hs5,f0,f3,rfl,rfl⟩
   ·rw[if_neg (by simpa using e),List.append_nil]at et
    simp only[go_sem,Aa,decide_eq_false e,f6,nx];exact⟨B.length-(i+1),by omega,i+1,lv,rfl,by omega,by rw[et];exact hL,hG,f0,f3,f5,rfl⟩
  ·rw[List.take_of_length_le (by omega)]at hL
   simp only[go_sem,Aa,f5];exact Ad (r:=lv) rfl ⟨hL,fun y o hy=>hG y o (hs y o hy)⟩
 exact hm.post (by kernel_rfl) fun r σ' ⟨h1,h2⟩=>⟨_,_,Fs h1 h2,rfl,rfl⟩
theorem Ae1(h:RK σ t B)(hB:BOk B):AT Tryz.prog 70 [ptr t] σ fun v σ'=>v= .sl 4 (faC (hdsF B))∧σ'=σ:=by
 refine AT.ob Tryz.func70 rfl ?_;have hbl:=hB.len;have h1:σ t=some (.cells [.sl 6 (deC B)]):=h;simp only[go_sem,Aa];refine⟨fun m fr σ'=>∃(k:Nat) (v:AV),m=B.length-k∧k≤B.length∧σ'=σ∧VW σ σ v (.sl 4 (faC (Ba Ar [] ((B.take k).map De.hd))))∧fr 0=ptr t∧fr 3=v∧fr 4=int k,⟨_,0,A0,rfl,by omega,rfl,.nil 4,rfl,rfl,rfl⟩,?_⟩;rintro m fr σ ⟨k,v,rfl,hk,rfl,hv,f0,f3,f4⟩;simp only[go_sem,f0,f4,h1,At];refine aIf_by (fun hlt=>?_) (fun hlt=>?_)
 ·have hkl:k<B.length:=by omega
  have hsk:=(hB.sm _ (List.getElem_mem hkl)).1;have nx:=Ai (show k<9223372036854775807 by omega);have hl1:=Br (c:=Ar) (s:=[]) (l:=(B.take k).map De.hd);have hsm:∀x∈Ba Ar [] ((B.take k).map De.hd),x.Sm:=fun x hx=>by
   rcases(Bl An).1 hx with h|h
   ·obtain⟨d,hd,rfl⟩:=List.mem_map.1 h
    exact(hB.sm d (List.mem_of_mem_take hd)).1
   ·cases h
  simp only[List.length_nil,List.length_map,List.length_take]at hl1;simp only[go_sem,Aa,f0,f3,f4,h1,Bv hkl,At];refine⟨by omega,(AT.weak (Lu (Ba Ar [] ((B.take k).map De.hd)) B[k].hd (by omega) hsm hsk) (vws_cons hv (Ca _))).mono ?_⟩;rintro _ σ ⟨rfl,rfl⟩;simp only[go_sem,Aa,f4,nx];exact⟨B.length-(k+1),by omega,k+1,_,rfl,by omega,by rw[List.take_add_one,List.getElem?_eq_getElem hkl,List.map_append,Ko];exact .refl _,f0,rfl,rfl⟩
 ·rw[List.take_of_length_le (by omega)]at hv
  simp only[go_sem,Aa,f3];exact Af (r:=v) rfl _ σ (view_of (F9 fun x o hx=>.inl hx) hv) ⟨rfl,rfl⟩
end
abbrev slp(b p n c:Nat):AV:=.v (.slice (some ⟨b,p,none⟩) n c)
def Io(v:AV)(x:Nat):Prop:=∃p n c,v=slp x p n c
def LQ(q:Nat)(σ:St)(v:AV)(es:List (List AV)):Prop:=
 (v=A0∧es=[])∨∃b pre post c cap,v=slp b (pre.length*q) es.length c∧σ b=some (.rows q (pre++es++post) false cap)∧(pre++es++post).length≤cap∧((post=[]∧c+pre.length=cap)∨(es=[]∧c=0))
section
variable{q:Nat}{σ σ':St}{v:AV}{es ys:List (List AV)}{K:AV→Prop}{k:AV→St→Prop}
theorem Sc{x:Nat}:¬Io A0 x:=fun⟨p,n,c,e⟩=>by cases e
theorem Ek{b p n c x:Nat}:Io (slp b p n c) x↔x=b:=by
 constructor
 ·rintro⟨p',n',c',e⟩
  simp only[AV.v.injEq,Value.slice.injEq,Option.some.injEq,Addr.mk.injEq]at e;exact e.1.1.symm
 ·rintro rfl;exact⟨_,_,_,rfl⟩
theorem LQ.nil:LQ q σ A0 []:=.inl ⟨rfl,rfl⟩
theorem LQ.rows(h:LQ q σ v es){x:Nat}(ho:Io v x):∃rs cap,σ x=some (.rows q rs false cap):=by
 rcases h with⟨rfl,_⟩|⟨b,pre,post,c,cap,rfl,hb,_,_⟩
 ·exact absurd ho Sc
 ·rw[Ek.1 ho];exact⟨_,_,hb⟩
theorem LQ.keep(h:LQ q σ v es)(hs:∀x o,σ x=some o→Io v x→σ' x=some o):LQ q σ' v es:=by
 rcases h with⟨rfl,he⟩|⟨b,pre,post,c,cap,rfl,hb,hl,hc⟩
 ·exact .inl ⟨rfl,he⟩
 ·exact .inr ⟨b,pre,post,c,cap,rfl,hs b _ hb (Ek.2 rfl),hl,hc⟩
theorem LQ.not_cells(h:LQ q σ v es){x:Nat}{cs:List AV}(hx:σ x=some (.cells cs)):¬Io v x:=fun ho=>by
 obtain⟨r,c,hc⟩:=h.rows ho;rw[hx]at hc;cases hc
theorem LQ.cells(h:LQ q σ v es):v.cells=[v]:=by rcases h with⟨rfl,_⟩|⟨b,pre,post,c,cap,rfl,_⟩<;>rfl
theorem LQ.one(h:LQ q σ v es):v.one=true:=by rcases h with⟨rfl,_⟩|⟨b,pre,post,c,cap,rfl,_⟩<;>rfl
theorem LQ.len{ag:Bool}{sz eby:Nat}{zr ez:List Value}{byt:Bool}(h:LQ q σ v es):J9 (some ⟨ag,sz,zr,.sl q eby ez byt⟩) v K=K (.v (.int .i64 es.length)):=by
 rcases h with⟨rfl,rfl⟩|⟨b,pre,post,c,cap,rfl,_⟩<;>rfl
theorem LQ.first{ag:Bool}{sz eby:Nat}{zr ez:List Value}{byt:Bool}{ik:IntKind}{e:List AV}(h:LQ q σ v (e::es))(hq:0<q)(he:e.length=q)
  (hk:∀p,(∀(zr':List Value) (td:TD) (K':AV→Prop),K' (.agg e)→Cz (some ⟨true,q,zr',td⟩) σ p K')→K p):Ez (some ⟨ag,sz,zr,.sl q eby ez byt⟩) σ v (.v (.int ik 0)) K:=by
 rcases h with⟨_,h⟩|⟨b,pre,post,c,cap,rfl,hb,hl,hc⟩
 ·cases h
 ·refine Hw (l:=pre.length) rfl hq (by omega) (by simp) (hk _ fun zr' td K' hK=>?_)
  simp only[Cz,hb];have e1:(pre++e::es++post).getD (pre.length+(0:Int).toNat) []=e:=by
   simp[List.getD_eq_getElem?_getD,List.getElem?_append_right]
  rw[e1];simp only[if_true,List.drop_zero];rw[List.take_of_length_le (by omega)];exact⟨trivial,by simp,by omega,hK⟩
theorem LQ.tail{ag:Bool}{sz eby:Nat}{zr ez:List Value}{byt:Bool}{ik:IntKind}{e:List AV}(h:LQ q σ v (e::es))
  (hk:∀v',LQ q σ v' es→(∀x,Io v' x↔Io v x)→K v'):aSli (some ⟨ag,sz,zr,.sl q eby ez byt⟩) σ v (some (.v (.int ik 1))) .none .none K:=by
 rcases h with⟨_,h⟩|⟨b,pre,post,c,cap,rfl,hb,hl,hc⟩
 ·cases h
 ·obtain⟨rfl,hc⟩:post=[]∧c+pre.length=cap:=by
   rcases hc with hc|⟨h,_⟩
   ·exact hc
   ·cases h
  simp only[List.length_append,List.length_cons,List.append_nil,List.length_nil]at hl;refine .inl ⟨b,_,_,c,rfl,1,(es.length+1:Nat),c,rfl,by simp[Ja],.inl ⟨rfl,rfl⟩,by omega,by omega,by omega,by omega,?_⟩;rw[show((es.length+1:Nat):Int).toNat-(1:Int).toNat=es.length by simp];rw[show(c:Int).toNat-(1:Int).toNat=c-1 by simp];unfold Fz;by_cases h1:c=1
  ·rw[if_pos (by simp[h1])]
   have he:es=[]:=List.eq_nil_of_length_eq_zero (by omega);subst he;refine hk _ (.inr ⟨b,pre,[e],c-1,cap,rfl,by simpa using hb,by simp at hl⊢;omega,.inr ⟨rfl,by omega⟩⟩) fun x=>by rw[Ek,Ek]
  ·rw[if_neg (by simp;omega)]
   have e1:pre.length*q+(1:Int).toNat*q=(pre++[e]).length*q:=by simp[Nat.add_mul]
   rw[e1];refine hk _ (.inr ⟨b,pre++[e],[],c-1,cap,rfl,by simpa using hb,by simp at hl⊢;omega,.inl ⟨rfl,by simp;omega⟩⟩) fun x=>by rw[Ek,Ek]
theorem LQ.app{eby:Nat}(h:LQ q σ v es)(hq:0<q)(hy:ys≠[])(hb:(es.length+ys.length)*eby≤140737488355328)
  (hk:∀v' σ',LQ q σ' v' (es++ys)→(∀x o,σ x=some o→¬Io v x→σ' x=some o∧¬Io v' x)→k v' σ'):Fh q eby ys σ v k:=by
 rcases h with⟨rfl,rfl⟩|⟨b,pre,post,c,cap,rfl,hbr,hl,hc⟩
 ·refine⟨fun e=>absurd e hy,fun _=>⟨by simpa using hb,fun b cap hb0 hle=>?_⟩⟩
  refine hk _ _ (.inr ⟨b,[],[],cap,cap,by simp,by rw[Ab];simp,by simpa using hle,.inl ⟨rfl,rfl⟩⟩) fun x o hx hn=>?_;have hne:x≠b:=fun e=>by subst e;rw[hb0]at hx;cases hx
  exact⟨by rw[Ag hne];exact hx,fun ho=>hne (Ek.1 ho)⟩
 ·rcases hc with⟨rfl,hc⟩|⟨rfl,rfl⟩
  ·rw[List.append_nil]at hbr
   refine .inr (.inr (.inr ⟨hy,pre,es,cap,hbr,rfl,rfl,hc,hb,fun b' pre' cap'' hb0 hle=>?_⟩));refine hk _ _ (.inr ⟨b',pre',[],cap''-pre'.length,cap'',by rw[List.length_append],by rw[Ab];simp,by simp;omega,.inl ⟨rfl,by omega⟩⟩) fun x o hx hn=>?_;have hnb:x≠b:=fun e=>hn (Ek.2 e);have hdel:(σ.del b) x=some o:=by simp[St.del,hnb,hx]
   have hne:x≠b':=fun e=>by subst e;rw[hb0]at hdel;cases hdel
   exact⟨by rw[Ag hne];exact hdel,fun ho=>hne (Ek.1 ho)⟩
  ·refine .inl ⟨rfl,hy,[],?_,by simpa using hb,fun b' cap' hb0 hle=>?_⟩
   ·simp only[src,hbr,List.length_nil]
    rw[if_pos ⟨trivial,Nat.mul_mod_left _ _,by rw[Nat.mul_div_cancel _ hq];simp⟩];simp
   ·refine hk _ _ (.inr ⟨b',[],[],cap',cap',by simp,by rw[Ab];simp,by simpa using hle,.inl ⟨rfl,rfl⟩⟩) fun x o hx hn=>?_
    have hne:x≠b':=fun e=>by subst e;rw[hb0]at hx;cases hx
    exact⟨by rw[Ag hne];exact hx,fun ho=>hne (Ek.1 ho)⟩
end
def Eg(s:List Fa×Bool)(d:De):List Fa×Bool:=if d.hd∈s.1 then s else if∀x∈d.bo,x∈s.1 then(Bd Ar d.hd s.1,true)else s
def rnd(B:List De)(out:List Fa):List Fa×Bool:=B.foldl Eg (out,false)
def Ph(B:List De):Nat→List Fa→List Fa
 |0,out=>out
 |n+1,out=>if(rnd B out).2=true then Ph B n (rnd B out).1 else(rnd B out).1
def P6(B:List De)(out:List Fa):Nat:=(B.filter fun d=>!decide (d.hd∈out)).length
def C8(B:List De)(base:List Fa):List Fa:=Ph B (B.length+1) (Ba Ar [] base)
theorem Ae3{s:List Fa×Bool}{d:De}{x:Fa}(h:x∈s.1):x∈(Eg s d).1:=by
 unfold Eg;split
 ·exact h
 ·split
  ·exact(Es An).2 (.inr h)
  ·exact h
theorem Sj{x:Fa}:∀{B:List De} {s:List Fa×Bool},x∈s.1→x∈(B.foldl Eg s).1
 | [],s,h=>h
 |d::B,s,h=>Sj (B:=B) (Ae3 h)
theorem Sk:∀{B:List De} {s:List Fa×Bool},s.2=false→(B.foldl Eg s).2=true→∃d∈B,d.hd∉s.1∧d.hd∈(B.foldl Eg s).1
 | [],s,h,h2=>by rw[List.foldl_nil,h]at h2;cases h2
 |d::B,s,h,h2=>by
  rw[List.foldl_cons]at h2⊢;by_cases h1:d.hd∈s.1
  ·have e:Eg s d=s:=by unfold Eg;rw[if_pos h1]
   rw[e]at h2⊢;obtain⟨x,hx,k⟩:=Sk h h2;exact⟨x,List.mem_cons_of_mem _ hx,k⟩
  ·by_cases h3:∀x∈d.bo,x∈s.1
   ·have e:Eg s d=(Bd Ar d.hd s.1,true):=by unfold Eg;rw[if_neg h1,if_pos h3]
    refine⟨d,by simp,h1,Sj ?_⟩;rw[e];exact(Es An).2 (.inl rfl)
   ·have e:Eg s d=s:=by unfold Eg;rw[if_neg h1,if_neg h3]
    rw[e]at h2⊢;obtain⟨x,hx,k⟩:=Sk h h2;exact⟨x,List.mem_cons_of_mem _ hx,k⟩
theorem Agu{α:Type}{p q:α→Bool}:∀{l:List α},(∀x∈l,q x=true→p x=true)→(∃x∈l,p x=true∧q x=false)→(l.filter q).length<(l.filter p).length
 | [],_,⟨x,hx,_⟩=>by cases hx
 |a::l,h,⟨x,hx,h1,h2⟩=>by
  have hle:(l.filter q).length≤(l.filter p).length:=by
   clear hx h1 h2;have h':∀x∈l,q x=true→p x=true:=fun x hx=>h x (List.mem_cons_of_mem _ hx);clear h
   induction l with
   |nil=>simp
   |cons b l ih=>
    have:=ih fun x hx=>h' x (List.mem_cons_of_mem _ hx);cases hq:q b with
    |true=>rw[List.filter_cons_of_pos hq,List.filter_cons_of_pos (h' b (by simp) hq)];simpa using this
    |false=>
     rw[List.filter_cons_of_neg (by simp[hq])];cases hp:p b with
     |true=>rw[List.filter_cons_of_pos hp];simp;omega
     |false=>rw[List.filter_cons_of_neg (by simp[hp])];exact this
  rcases List.mem_cons.1 hx with rfl|hx
  ·rw[List.filter_cons_of_neg (by simp[h2]),List.filter_cons_of_pos h1];simp;omega
  ·have ih:=Agu (fun x hx=>h x (List.mem_cons_of_mem _ hx)) ⟨x,hx,h1,h2⟩
   cases hq:q a with
   |true=>rw[List.filter_cons_of_pos hq,List.filter_cons_of_pos (h a (by simp) hq)];simpa using ih
   |false=>
    rw[List.filter_cons_of_neg (by simp[hq])];cases hp:p a with
    |true=>rw[List.filter_cons_of_pos hp];simp;omega
    |false=>rw[List.filter_cons_of_neg (by simp[hp])];exact ih
theorem Ack{B:List De}{out:List Fa}(h:(rnd B out).2=true):P6 B (rnd B out).1<P6 B out:=by
 obtain⟨d,hd,h1,h2⟩:=Sk (B:=B) (s:=(out,false)) rfl h;refine Agu (fun x hx hq=>?_) ⟨d,hd,by simpa using h1,?_⟩
 ·simp only[Bool.not_eq_true',decide_eq_false_iff_not]at hq⊢
  exact fun hm=>hq (Sj (B:=B) (s:=(out,false)) hm)
 ·simp only[Bool.not_eq_false',decide_eq_true_eq]
  exact h2
theorem Gr{t:Tm}{c:Cn}{env e:List Bi}(h:Bm t c env=some e):e.length≤env.length+1:=by
 unfold Bm at h;split at h
 ·split at h
  ·injection h with h;subst h;omega
  ·cases h
 ·split at h
  ·cases h
  ·injection h with h;subst h;simp
theorem Y6{l:List (Tm×Cn)}:∀{env e:List Bi},Ib l env=some e→e.length≤env.length+l.length:=by
 induction l with
 |nil=>intro env e h;injection h with h;subst h;simp
 |cons p l ih=>
  intro env e h;obtain⟨m,h1,h2⟩:=Option.bind_eq_some_iff.1 h;have:=Gr h1;have:=ih h2;simp only[List.length_cons];omega
theorem Qs{ho:Tm}{l:Li}{f:Fa}{env e:List Bi}(h:Bo ho l f env=some e):e.length≤env.length+l.ar.length+2:=by
 unfold Bo at h;split at h
 ·have:=Y6 h
  unfold eqs at this;simp only[List.length_cons,List.length_append,List.length_zip]at this;split at this<;>simp only[List.length_nil,List.length_cons]at this<;>omega
 ·cases h
theorem S9{l m:List (Tm×Cn)}:∀{env:List Bi},Ib (l++m) env=(Ib l env).bind (Ib m):=by
 induction l with
 |nil=>intro env;rfl
 |cons p l ih=>
  intro env;show(Bm p.1 p.2 env).bind (Ib (l++m))=_;cases h:Bm p.1 p.2 env with
  |none=>simp[Ib,h]
  |some e=>simp only[Option.bind_some,Ib,h];exact ih
theorem Uq{a:List Tm}{b:List Cn}{i:Nat}(h1:i<a.length)(h2:i<b.length)(env:List Bi):Ib ((a.take (i+1)).zip (b.take (i+1))) env=(Ib ((a.take i).zip (b.take i)) env).bind (Bm a[i] b[i]):=by
 rw[List.take_add_one,List.take_add_one,List.getElem?_eq_getElem h1,List.getElem?_eq_getElem h2,List.zip_append (by simp;omega),S9]
 congr 1
 funext e;simp[Ib]
def Hf(ho:Tm)(l:Li)(f:Fa)(env:List Bi):Option (List Bi):=(Bm (orT l.at' ho) (nmC f.at') env).bind fun e=>if l.by'= .zero then(if f.by'=f.at' then some e else none)else Bm l.by' (nmC f.by') e
theorem Ahe{ho:Tm}{l:Li}{f:Fa}{env:List Bi}:Bo ho l f env=if l.nm=f.pr∧l.ar.length=f.ar.length then(Hf ho l f env).bind (Ib (l.ar.zip f.ar))else none:=by
 unfold Bo fits eqs Hf;by_cases h:l.nm=f.pr∧l.ar.length=f.ar.length
 ·rw[if_pos h,decide_eq_true h.1,decide_eq_true h.2]
  simp only[Bool.true_and];by_cases h0:l.by'= .zero
  ·rw[if_pos h0]
   by_cases h1:f.by'=f.at'
   ·rw[if_pos (by simp[h1])]
    simp only[Ib,List.nil_append,h0,h1,if_true];cases Bm (orT l.at' ho) (nmC f.at') env<;>rfl
   ·rw[if_neg (by simp[h0,h1])]
    simp only[h0,h1,if_true,if_false];cases Bm (orT l.at' ho) (nmC f.at') env<;>rfl
  ·rw[if_neg h0,if_pos (by simp[h0])]
   simp only[Ib,List.cons_append,List.nil_append,h0,if_false];cases Bm (orT l.at' ho) (nmC f.at') env<;>rfl
 ·rw[if_neg h,if_neg]
  intro h';simp only[Bool.and_eq_true,decide_eq_true_eq]at h';exact h h'.1
section
variable{P:Program}{res:List ResultVar}{fr:Fr}{σ σ':St}{o:Option (List Bi)}
theorem D1(hr:Bb P fr σ' res=some (.tup [A0,boo false]))(hs:∀y o,σ y=some o→σ' y=some o)(ho:o=none):D3 P (fun r σ''=>r=Ie o∧σ''=σ) res fr σ':=
 Af hr (Ie none) σ (H7 hs _) ⟨by rw[ho],rfl⟩
theorem Ac7{e:List Bi}(hr:Bb P fr σ' res=some (.tup [.sl 4 (biC e),boo true]))(hs:∀y o,σ y=some o→σ' y=some o)(ho:o=some e):D3 P (fun r σ''=>r=Ie o∧σ''=σ) res fr σ':=
 Af hr (Ie (some e)) σ (Aq hs) ⟨by rw[ho],rfl⟩
end
theorem Nv{ho:Tm}{l:Li}{f:Fa}{env:List Bi}(h:¬(l.nm=f.pr∧l.ar.length=f.ar.length)):Bo ho l f env=none:=by rw[Ahe,if_neg h]
theorem Acl{ho:Tm}{l:Li}{f:Fa}{env:List Bi}(h1:l.nm=f.pr)(h2:l.ar.length=f.ar.length):Bo ho l f env=(Hf ho l f env).bind (Ib (l.ar.zip f.ar)):=by rw[Ahe,if_pos ⟨h1,h2⟩]
section
variable{σ:St}
theorem Ac8(ho:Tm)(l:Li)(f:Fa)(env:List Bi)(hl:env.length≤100000)(ha:l.ar.length≤100000):AT Tryz.prog 174 [.agg ho.cs,.agg l.cs,.agg f.cs,.sl 4 (biC env)] σ fun r σ'=>r=Ie (Bo ho l f env)∧σ'=σ:=by
 refine AT.ob Tryz.func174 rfl ?_;simp only[go_sem];refine Ctx.nil.alloc fun p σ1 c1=>?_;simp only[go_sem];refine c1.alloc fun q σ2 c2=>?_;simp only[go_sem];refine c2.alloc fun x σ3 c3=>?_;by_cases h1:l.nm=f.pr
 ·simp only[go_sem,c3.g2,h1]
  refine aIf_by (fun h2=>?_) (fun h2=>?_)
  ·have h2:l.ar.length=f.ar.length:=by omega
   have hlf:=Acl (ho:=ho) (env:=env) h1 h2;simp only[go_sem,c3.g2];refine c3.alloc fun r σ4 c4=>?_;obtain⟨σ5,e5,c5⟩:=c4.abs 0 rfl (.cells l.at'.cs);simp only[go_sem,c4.g3,e5,c5.g3];refine(N4 l.at').mono ?_;rintro _ σ5 ⟨rfl,rfl⟩;simp only[go_sem];refine Co (fun fr σ'=>Ctx σ [(r,.cells (orT l.at' ho).cs),(x,.cells f.cs),(q,.cells l.cs),(p,.cells ho.cs)] σ'∧fr 3= .sl 4 (biC env)∧fr 4=ptr p∧fr 5=ptr q∧fr 6=ptr x∧fr 10=ptr r) (fun h0=>?_) (fun h0=>?_) ?_
   ·obtain⟨σ6,e6,c6⟩:=c5.abs 0 rfl (.cells ho.cs)
    simp only[go_sem,c5.g3,e6];unfold orT;rw[if_pos h0];exact c6
   ·simp only[go_sem]
    unfold orT;rw[if_neg h0];exact c5
   clear c5 c4 e5;rintro fr σ6 ⟨c6,f3,f4,f5,f6,f10⟩;simp only[go_sem];refine Ae [.rd 0 true,.rd 1 false,.rd 2 true,.rd 4 false,.ef 3 [0],.ef 5 [],.rd 6 false,.rd 7 false,.rd 8 false,.rd 9 false,.rd 10 false] ?_;simp only[go_sem,f3,f6,f10,c6.g3];refine(N3 f.at').mono ?_;rintro _ σ6 ⟨rfl,rfl⟩;simp only[go_sem,f3,f6,f10,c6.g3];refine(Je (orT l.at' ho) (nmC f.at') env (by omega)).mono ?_;rintro _ σ6 ⟨rfl,rfl⟩;simp only[go_sem];cases hu:Bm (orT l.at' ho) (nmC f.at') env with
   |none=>
    have hn:Bo ho l f env=none:=by rw[hlf];unfold Hf;rw[hu];rfl
    simp only[go_sem];exact D1 rfl c6.sub hn
   |some e=>
    have he:=Gr hu;simp only[go_sem,f5,c6.g3];refine(N4 l.by').mono ?_;rintro _ σ6 ⟨rfl,rfl⟩;simp only[go_sem];refine Co (fun fr σ'=>∃e2,σ'=σ6∧Hf ho l f env=some e2∧e2.length≤env.length+2∧fr 5=ptr q∧fr 6=ptr x∧fr 11= .sl 4 (biC e2)) (fun h0=>?_) (fun h0=>?_) ?_
    ·by_cases h3:f.by'=f.at'
     ·have ht:Hf ho l f env=some e:=by unfold Hf;rw[hu];simp[h0,h3]
      simp only[go_sem,f6,c6.g3,h3];refine⟨e,?_⟩
      (and_intros<;>first|assumption|rfl|omega)
     ·have hn:Bo ho l f env=none:=by rw[hlf];unfold Hf;rw[hu];simp[h0,h3]
      simp only[go_sem,f6,c6.g3,h3];exact D1 rfl c6.sub hn
    ·simp only[go_sem]
     refine Ae [.rd 0 false,.rd 1 true,.rd 2 false,.rd 3 true,.rd 5 false,.ef 4 [1],.ef 6 [],.rd 7 false,.rd 8 false,.rd 9 false,.rd 10 false,.rd 11 false] ?_;simp only[go_sem,f5,f6,c6.g3];refine(N3 f.by').mono ?_;rintro _ σ6 ⟨rfl,rfl⟩;simp only[go_sem,f5,f6,c6.g3];refine(Je l.by' (nmC f.by') e (by omega)).mono ?_;rintro _ σ6 ⟨rfl,rfl⟩;simp only[go_sem];cases hv:Bm l.by' (nmC f.by') e with
     |none=>
      have hn:Bo ho l f env=none:=by rw[hlf];unfold Hf;rw[hu];simp[h0,hv]
      simp only[go_sem];exact D1 rfl c6.sub hn
     |some e2=>
      have ht:Hf ho l f env=some e2:=by unfold Hf;rw[hu];simp[h0,hv]
      have:=Gr hv;simp only[go_sem];refine⟨e2,?_⟩
      (and_intros<;>first|assumption|rfl|omega)
    rintro fr σ' ⟨e2,rfl,ht,hl2,f5,f6,f11⟩;rw[ht,Option.bind_some]at hlf;clear f3 f4 f10;simp only[go_sem,Aa];refine⟨fun m fr σ''=>∃(i:Nat) (ei:List Bi),m=l.ar.length-i∧i≤l.ar.length∧σ''=σ'∧Ib ((l.ar.take i).zip (f.ar.take i)) e2=some ei∧fr 5=ptr q∧fr 6=ptr x∧fr 11= .sl 4 (biC ei)∧fr 13=int i,⟨_,0,e2,rfl,by omega,rfl,rfl,f5,f6,f11,rfl⟩,?_⟩;clear f5 f6 f11;rintro m fr σ'' ⟨i,ei,rfl,hi,rfl,hI,f5,f6,f11,f13⟩;have hei:=Y6 hI;simp only[List.length_zip,List.length_take]at hei;simp only[go_sem,f5,f13,c6.g3];refine aIf_by (fun hlt=>?_) (fun hlt=>?_)
    ·have hil:i<l.ar.length:=by omega
     have hif:i<f.ar.length:=by omega
     simp only[go_sem,Aa];refine Ae [.rd 0 false,.rd 1 true,.rd 2 false,.rd 3 false,.rd 4 true,.rd 5 false,.rd 6 true,.rd 7 false,.rd 8 false,.rd 9 true,.rd 10 false,.ef 11 [],.rd 12 false,.rd 13 false,.rd 14 false,.rd 15 false,.rd 16 false] ?_;simp only[go_sem,Aa,f5,f6,f11,f13,c6.g3,Im hil,Fl hif];refine⟨by omega,by omega,(Je l.ar[i] f.ar[i] ei (by omega)).mono ?_⟩;rintro _ σ6 ⟨rfl,rfl⟩;have hs:=Uq hil hif e2;rw[hI,Option.bind_some]at hs;simp only[go_sem];cases hw:Bm l.ar[i] f.ar[i] ei with
     |none=>
      rw[hw]at hs;have hn:Bo ho l f env=none:=by
       rw[hlf];have e1:l.ar.zip f.ar=(l.ar.take (i+1)).zip (f.ar.take (i+1))++(l.ar.drop (i+1)).zip (f.ar.drop (i+1)):=by
        rw[←List.zip_append (by simp;omega),List.take_append_drop,List.take_append_drop]
       rw[e1,S9,hs];rfl
      simp only[go_sem];exact D1 rfl c6.sub hn
     |some e3=>
      rw[hw]at hs;simp only[go_sem,f5,f6,f13,Ai (show i<9223372036854775807 by omega)];refine⟨l.ar.length-(i+1),by omega,i+1,e3,?_⟩
      (and_intros<;>first|assumption|rfl|omega)
    ·rw[List.take_of_length_le (by omega),List.take_of_length_le (by omega)]at hI
     simp only[go_sem,f11];exact Ac7 rfl c6.sub (by rw[hlf,hI])
  ·have hn:Bo ho l f env=none:=Nv fun h=>h2 (by rw[h.2])
   simp only[go_sem];exact D1 rfl c3.sub hn
 ·have hn:Bo ho l f env=none:=Nv fun h=>h1 h.1
  simp only[go_sem,c3.g2,h1];exact D1 rfl c3.sub hn
end
def FI(β σ:St)(x:Nat)(out:List (List Fa))(d:Nat):Prop:=
 ∃lv,σ x=some (.cells [lv,int d,boo (decide (30000<d))])∧LAt 1 σ lv (boC out)∧∀y o,β y=some o→σ y=some o∧y≠x∧¬Own lv y
section
variable{β σ:St}{x:Nat}
theorem Ai7{out:List (List Fa)}{b:List Fa}(k:Nat):([]++(boC out).take k)++[[.sl 4 (faC b)]]++(boC out).drop k=boC (out.take k++b::out.drop k):=by
 simp[boC,List.map_take,List.map_drop]
theorem Ano{out:List (List Fa)}{d:Nat}{b:List Fa}(h:FI β σ x out d)(hl:out.length≤100000)(ho:∀a∈out,SmB a)(hb:SmB b):AT Tryz.prog 222 [ptr x,.sl 4 (faC b)] σ fun _ σ'=>FI β σ' x (Bd Ed b out) d:=by
 obtain⟨lv,hx,hL,hβ⟩:=h;refine AT.ob Tryz.func222 rfl ?_;simp only[go_sem,Aa];refine⟨fun m fr σ'=>∃k:Nat,m=out.length-k∧k≤out.length∧σ'=σ∧(∀i (hi:i<k) (hl:i<out.length),Ed out[i] b<0)∧fr 0=ptr x∧fr 1= .sl 4 (faC b)∧fr 4=int k,⟨_,0,rfl,by omega,rfl,fun i hi=>by omega,rfl,rfl,rfl⟩,?_⟩;rintro m fr σ ⟨k,rfl,hk,rfl,hI,f0,f1,f4⟩;by_cases g:∃hk:k<out.length,Ed out[k] b<0
 ·obtain⟨g1,g2⟩:=g
  have d1:=decide_eq_true (show(k:Int)<out.length by omega);simp only[go_sem,Aa,f0,f1,f4,hx,hL.len,d1];refine hL.elem (by omega) (by rw[Fk];omega) fun p hp=>?_;simp only[go_sem,Aa];refine hp.load1 (by decide) (by rw[Int.toNat_natCast,C0 g1];exact Nat.le_refl 1) ?_;simp only[go_sem,Aa,f0,f1,f4,C0 g1];have s1:=ho _ (List.getElem_mem g1);refine(Kw out[k] b s1.1 s1.2 hb.1 hb.2).mono ?_;rintro _ σ ⟨rfl,rfl⟩;simp only[go_sem,Aa,f0,f1,f4,decide_eq_true g2,Ai (show k<9223372036854775807 by omega)];refine⟨out.length-(k+1),by omega,k+1,?_⟩;have hI':∀i (hi:i<k+1) (hl:i<out.length),Ed out[i] b<0:=fun i hi hl=>by
   by_cases e:i=k
   ·subst e;exact g2
   ·exact hI i (by omega) hl
  (and_intros<;>first|assumption|rfl|omega)
 ·have hn:∀hk:k<out.length,¬Ed out[k] b<0:=fun h1 h2=>g ⟨h1,h2⟩
  have hins:=Hx (c:=Ed) hk hI hn;by_cases h0:∃hk:k<out.length,Ed out[k] b=0
  ·obtain⟨g1,g2⟩:=h0
   rw[if_pos ⟨g1,g2⟩]at hins;have d1:=decide_eq_true (show(k:Int)<out.length by omega);have s1:=ho _ (List.getElem_mem g1);simp only[go_sem,Aa,f0,f1,f4,hx,hL.len,d1];refine hL.elem (by omega) (by rw[Fk];omega) fun p hp=>?_;simp only[go_sem,Aa];refine hp.load1 (by decide) (by rw[Int.toNat_natCast,C0 g1];exact Nat.le_refl 1) ?_;simp only[go_sem,Aa,f0,f1,f4,C0 g1];refine(Kw out[k] b s1.1 s1.2 hb.1 hb.2).mono ?_;rintro _ σ ⟨rfl,rfl⟩;simp only[go_sem,Aa,f0,f1,f4,decide_eq_false (hn g1),hx,hL.len,d1];refine hL.elem (by omega) (by rw[Fk];omega) fun p hp=>?_;simp only[go_sem,Aa];refine hp.load1 (by decide) (by rw[Int.toNat_natCast,C0 g1];exact Nat.le_refl 1) ?_;simp only[go_sem,Aa,f0,f1,f4,C0 g1];refine(Kw out[k] b s1.1 s1.2 hb.1 hb.2).mono ?_;rintro _ σ ⟨rfl,rfl⟩;simp only[go_sem,Aa,decide_eq_true g2];rw[hins];exact Ad (r:=.tup []) rfl ⟨lv,hx,hL,hβ⟩
  ·rw[if_neg h0]at hins
   by_cases hkl:k<out.length
   case' pos=>
    have d1:=decide_eq_true (show(k:Int)<out.length by omega);have s1:=ho _ (List.getElem_mem hkl);simp only[go_sem,Aa,f0,f1,f4,hx,hL.len,d1];refine hL.elem (by omega) (by rw[Fk];omega) fun p hp=>?_;simp only[go_sem,Aa];refine hp.load1 (by decide) (by rw[Int.toNat_natCast,C0 hkl];exact Nat.le_refl 1) ?_;simp only[go_sem,Aa,f0,f1,f4,C0 hkl];refine(Kw out[k] b s1.1 s1.2 hb.1 hb.2).mono ?_;rintro _ σ ⟨rfl,rfl⟩;simp only[go_sem,Aa,f0,f1,f4,decide_eq_false (hn hkl),hx,hL.len,d1];refine hL.elem (by omega) (by rw[Fk];omega) fun p hp=>?_;simp only[go_sem,Aa];refine hp.load1 (by decide) (by rw[Int.toNat_natCast,C0 hkl];exact Nat.le_refl 1) ?_;simp only[go_sem,Aa,f0,f1,f4,C0 hkl];refine(Kw out[k] b s1.1 s1.2 hb.1 hb.2).mono ?_;rintro _ σ ⟨rfl,rfl⟩;have d2:=decide_eq_false (show¬Ed out[k] b=0 from fun e=>h0 ⟨hkl,e⟩);simp only[go_sem,Aa,d2,f0,f4,hx]
   case' neg=>
    have d1:=decide_eq_false (show¬(k:Int)<out.length by omega);simp only[go_sem,Aa,f0,f1,f4,hx,hL.len,d1]
   all_goals
    refine hL.upto (by omega) (by rw[Fk];omega) fun s hs=>?_;simp only[go_sem,Aa];refine As (ys:=(boC out).take k) (by rw[hs _ _ hL];rfl) (by decide) (by decide) (by decide) (LAt.full.app (by rw[List.length_take,Fk];simp only[List.length_nil];omega) fun l1 σ1 h1 e1=>?_);have G1:Cd σ σ1 l1:=fun y p hy=>e1 y p hy A1;simp only[go_sem,Aa,f1];refine As (ys:=[[.sl 4 (faC b)]]) (by rfl) (by decide) (by decide) (by decide) (h1.app (by rw[List.nil_append,List.length_take,Fk];simp only[List.length_nil,List.length_cons];omega) fun l2 σ2 h2 e2=>?_);have G2:=G1.step e2;simp only[go_sem,Aa,f0,f4,G2.sub _ _ hx];have hL2:LAt 1 σ2 lv (boC out):=hL.keep fun y o hy _=>G2.sub y o hy;refine hL2.from (by decide) (by omega) (by rw[Fk];omega) fun s2 hs2=>?_;simp only[go_sem,Aa];refine As (ys:=(boC out).drop k) (by rw[hs2 _ _ hL2];rfl) (by decide) (by decide) (by decide) (h2.app (by simp only[List.nil_append,List.length_append,List.length_take,List.length_drop,Fk,List.length_nil,List.length_cons];omega) fun l3 σ3 h3 e3=>?_);have G3:=G2.step e3;have hx3:=G3 _ _ hx;simp only[go_sem,Aa,f0,hx3.1,h3.one,h3.cells];refine Ad (r:=.tup []) rfl ⟨l3,Ab,?_,fun y o hy=>?_⟩
    ·rw[hins,←Ai7]
     exact h3.keep fun y o hy ho=>by rw[Ag (fun e=>by subst e;exact hx3.2 ho)];exact hy
    ·obtain⟨k1,k2,k3⟩:=hβ y o hy
     exact⟨by rw[Ag k2];exact(G3 _ _ k1).1,k2,(G3 _ _ k1).2⟩
end
section
variable{β β' σ σ':St}{x:Nat}{out:List (List Fa)}{d:Nat}
theorem FI.mono(h:FI β σ x out d)(hs:∀y o,σ y=some o→σ' y=some o):FI β σ' x out d:=by
 obtain⟨lv,h1,h2,h3⟩:=h;exact⟨lv,hs _ _ h1,h2.keep fun y o hy _=>hs y o hy,fun y o hy=>⟨hs _ _ (h3 y o hy).1,(h3 y o hy).2⟩⟩
theorem FI.sub(h:FI β' σ x out d)(hs:∀y o,β y=some o→β' y=some o):FI β σ x out d:=by
 obtain⟨lv,h1,h2,h3⟩:=h;exact⟨lv,h1,h2,fun y o hy=>h3 y o (hs y o hy)⟩
theorem FI.base(h:FI β σ x out d):∃β',FI β' σ x out d∧(∀y o,β y=some o→β' y=some o)∧∀y cs,σ y=some (.cells cs)→y≠x→β' y=some (.cells cs):=by
 classical
 obtain⟨lv,h1,h2,h3⟩:=h;refine⟨fun y=>if y=x∨Own lv y then none else σ y,⟨lv,h1,h2,fun y o hy=>?_⟩,fun y o hy=>?_,fun y cs hy hne=>?_⟩
 ·simp only at hy
  split at hy
  ·cases hy
  ·rename_i hn
   exact⟨hy,fun e=>hn (.inl e),fun e=>hn (.inr e)⟩
 ·obtain⟨k1,k2,k3⟩:=h3 y o hy
  simp only;rw[if_neg (by rintro(e|e);exact k2 e;exact k3 e)];exact k1
 ·simp only
  rw[if_neg (by rintro(e|e);exact hne e;exact h2.not_own hy e)];exact hy
theorem FI.keep(h:FI β σ x out d){y:Nat}{o:B7}(hy:β y=some o):σ y=some o:=by
 obtain⟨lv,h1,h2,h3⟩:=h;exact(h3 y o hy).1
end
theorem FI.put{β σ:St}{x:Nat}{out:List (List Fa)}{d:Nat}{lv:AV}{b:Bool}{cs:List AV}(x1:σ x=some (.cells cs))(x2:LAt 1 σ lv (boC out))(x3:∀y o,β y=some o→σ y=some o∧y≠x∧¬Own lv y)(hb:b=decide (30000<d)):FI β (σ.set x (.cells [lv,int d,boo b])) x out d:=by
 subst hb;exact⟨lv,Ab,x2.keep fun y o hy ho=>by rw[Ag (fun e=>by subst e;exact x2.not_own x1 ho)];exact hy,fun y o hy=>⟨by rw[Ag (x3 y o hy).2.1];exact(x3 y o hy).1,(x3 y o hy).2⟩⟩
def stp(ho:Tm)(li:Li)(ls:List (Li×List Fa))(env:List Bi)(got:List Fa)(s:List (List Fa)×Nat)(x:Fa):List (List Fa)×Nat:=
 if 30000<s.2 then s else match Bo ho li x env with
  |some e=>frm ho ls e (got++[x]) (s.1,s.2+1)
  |none=>(s.1,s.2+1)
theorem Nn{ho:Tm}{p:Li×List Fa}{ls:List (Li×List Fa)}{env:List Bi}{got:List Fa}{s:List (List Fa)×Nat}:frm ho (p::ls) env got s=p.2.foldl (stp ho p.1 ls env got) s:=rfl
theorem Um{ho:Tm}{li:Li}{ls:List (Li×List Fa)}{env:List Bi}{got:List Fa}{s:List (List Fa)×Nat}(h:30000<s.2):∀l:List Fa,l.foldl (stp ho li ls env got) s=s
 | []=>rfl
 |x::l=>by rw[List.foldl_cons];unfold stp;rw[if_pos h];exact Um h l
theorem Zy(ho:Tm):∀(ls:List (Li×List Fa)) (env:List Bi) (got:List Fa) (s:List (List Fa)×Nat),s.1.length≤s.2→s.2≤30001→(frm ho ls env got s).1.length≤(frm ho ls env got s).2+1∧(frm ho ls env got s).2≤30001
 | [],env,got,s,h1,h2=>⟨Nat.le_trans Nq (by simp only[frm];omega),h2⟩
 |p::ls,env,got,s,h1,h2=>by
  rw[Nn];have key:∀(l:List Fa) (s:List (List Fa)×Nat),s.1.length≤s.2+1→s.2≤30001→(l.foldl (stp ho p.1 ls env got) s).1.length≤(l.foldl (stp ho p.1 ls env got) s).2+1∧(l.foldl (stp ho p.1 ls env got) s).2≤30001:=by
   intro l
   induction l with
   |nil=>exact fun s h1 h2=>⟨h1,h2⟩
   |cons x l ih=>
    intro s h1 h2;rw[List.foldl_cons];have:(stp ho p.1 ls env got s x).1.length≤(stp ho p.1 ls env got s x).2+1∧(stp ho p.1 ls env got s x).2≤30001:=by
     unfold stp;split
     ·exact⟨h1,h2⟩
     ·split
      ·exact Zy ho ls _ _ _ (by simp only;omega) (by simp only;omega)
      ·exact⟨by simp only;omega,by simp only;omega⟩
    exact ih _ this.1 this.2
  exact key _ _ (by omega) h2
theorem Ag0(ho:Tm):∀(ls:List (Li×List Fa)) (env:List Bi) (got:List Fa) (s:List (List Fa)×Nat),(∀a∈s.1,SmB a)→(∀x∈got,x.Sm)→(∀p∈ls,∀x∈p.2,x.Sm)→got.length+ls.length≤1000000000000→∀a∈(frm ho ls env got s).1,SmB a
 | [],env,got,s,h1,h2,h3,h4,a,ha=>by
  rcases(Es Dh).1 ha with rfl|ha
  ·exact⟨by simpa using h4,h2⟩
  ·exact h1 a ha
 |p::ls,env,got,s,h1,h2,h3,h4,a,ha=>by
  rw[Nn]at ha;have h3':=h3 p (List.mem_cons_self ..);revert ha;generalize p.2=l at h3'
  induction l generalizing s with
  |nil=>exact fun ha=>h1 a ha
  |cons x l ih=>
   rw[List.foldl_cons];refine ih _ (fun b hb=>?_) fun y hy=>h3' y (List.mem_cons_of_mem _ hy);revert hb;unfold stp;split
   ·exact fun hb=>h1 b hb
   ·split
    ·rename_i e _
     intro hb;refine Ag0 ho ls e (got++[x]) (s.1,s.2+1) h1 ?_ (fun p hp=>h3 p (List.mem_cons_of_mem _ hp)) (by simp only[List.length_append,List.length_cons,List.length_nil]at*;omega) b hb;intro y hy;rcases List.mem_append.1 hy with hy|hy
     ·exact h2 y hy
     ·rw[List.mem_singleton.1 hy];exact h3' x (List.mem_cons_self ..)
    ·exact fun hb=>h1 b hb
def Cr(first:Int)(f:Fa)(l:List Fa)(k:Nat):List Fa:=if(k:Int)=first then[f]else l
def lsF(r:Rl)(first:Int)(f:Fa)(l:List Fa)(k m:Nat):List (Li×List Fa):=(List.range' k m).map fun i=>(r.bo.getD i .zero,Cr first f l i)
theorem Ahb{l:List Li}{i:Nat}(h:i<l.length):l.getD i .zero=l[i]:=by simp[List.getD_eq_getElem?_getD,h]
section
variable{β σ:St}{x:Nat}
theorem Ak4(r:Rl)(first:Int)(f:Fa)(l:List Fa)(hr:r.S3)(hf:f.Sm)(hl:l.length≤1000000)(hls:∀y∈l,y.Sm):∀(m k:Nat) {β σ:St} {env:List Bi} {got:List Fa} {out:List (List Fa)} {d:Nat},k+m=r.bo.length→got.length=k→env.length≤10+302*k→(∀y∈got,y.Sm)→
  FI β σ x out d→out.length≤d→d≤30001→(∀a∈out,SmB a)→
  AT Tryz.prog 173 [ptr x,.agg r.cs,int first,.agg f.cs,.sl 4 (faC l),.sl 4 (biC env),.sl 4 (faC got)] σ fun _ σ'=>FI β σ' x (frm r.ho (lsF r first f l k m) env got (out,d)).1 (frm r.ho (lsF r first f l k m) env got (out,d)).2:=by
 intro m
 induction m with
 |zero=>
  intro k β σ env got out d hk hg he hgs h hod hd hos;refine AT.ob Tryz.func173 rfl ?_;simp only[go_sem];refine Ctx.nil.alloc fun p σ1 c1=>?_;simp only[go_sem];refine c1.alloc fun q σ2 c2=>?_;have h:=h.mono c2.sub;have dd:=decide_eq_true (show(got.length:Int)=r.bo.length by omega);simp only[go_sem,c2.g1,dd];refine(Ano h (by omega) hos ⟨by have:=hr.1;omega,hgs⟩).mono ?_;intro _ σ3 h3;simp only[go_sem];exact Ad (r:=.tup []) rfl h3
 |succ m ih=>
  intro k β σ env got out d hk hg he hgs h hod hd hos;refine AT.ob Tryz.func173 rfl ?_;simp only[go_sem];refine Ctx.nil.alloc fun p σ1 c1=>?_;simp only[go_sem];refine c1.alloc fun q σ2 c2=>?_;have h:=h.mono c2.sub;have hx0:p≠x∧q≠x:=by
   obtain⟨lv,h1,h2,h3⟩:= ‹FI β σ x out d›;exact⟨fun e=>(by have:=c2.frs (p,.cells r.cs) (by simp);rw[e,h1]at this;cases this),fun e=>(by have:=c2.frs (q,.cells f.cs) (by simp);rw[e,h1]at this;cases this)⟩
  obtain⟨β',hF,hββ,hcl⟩:=h.base;have kp:=hcl p _ c2.g1.1.2 hx0.1;have kq:=hcl q _ c2.g1.1.1 hx0.2;have hkn:k<r.bo.length:=by omega
  have hlk:=hr.2 _ (List.getElem_mem hkn);have hr1:=hr.1;have dd:=decide_eq_false (show¬(got.length:Int)=r.bo.length by omega);have els:lsF r first f l k (m+1)=(r.bo[k],Cr first f l k)::lsF r first f l (k+1) m:=by
   unfold lsF;rw[List.range'_succ,List.map_cons,Ahb hkn]
  rw[els];obtain⟨cd,hcd⟩:∃cd,cd=Cr first f l k:=⟨_,rfl⟩
  have hcl:cd.length≤1000000:=by rw[hcd];unfold Cr;split
                                 ·simp
                                 ·exact hl
  have hcs:∀y∈cd,y.Sm:=by
   rw[hcd];unfold Cr;split
   ·intro y hy;rw[List.mem_singleton.1 hy];exact hf
   ·exact hls
  simp only[go_sem,c2.g1,dd];rw[←hcd,Nn];refine Co (fun fr σ'=>∃lc,(lc= .sl 4 (faC cd)∨lc= .fsl 4 (faC cd))∧σ'=σ2∧fr 0=ptr x∧fr 2=int first∧fr 4= .sl 4 (faC l)∧fr 5= .sl 4 (biC env)∧fr 6= .sl 4 (faC got)∧fr 8=ptr p∧fr 10=ptr q∧fr 14=int k∧fr 15=lc) (fun h0=>?_) (fun h0=>?_) ?_
  ·have e:cd=[f]:=by rw[hcd];unfold Cr;rw[if_pos (by omega)]
   simp only[go_sem,c2.g1];refine⟨.fsl 4 (faC cd),.inr rfl,?_⟩;rw[hg,e]
   (and_intros<;>first|assumption|rfl|omega)
  ·have e:cd=l:=by rw[hcd];unfold Cr;rw[if_neg (by omega)]
   simp only[go_sem];refine⟨.sl 4 (faC cd),.inl rfl,?_⟩;rw[hg,e]
   (and_intros<;>first|assumption|rfl|omega)
  rintro fr σ' ⟨lc,hlc,rfl,f0,f2,f4,f5,f6,f8,f10,f14,f15⟩;have hR:∀σ'',Rd 4 σ'' lc (faC cd):=fun σ''=>by
   rcases hlc with rfl|rfl
   ·exact .sl
   ·exact .of .full
  obtain⟨S0,hS0⟩:∃S0,S0=cd.foldl (stp r.ho r.bo[k] (lsF r first f l (k+1) m) env got) (out,d):=⟨_,rfl⟩;rw[←hS0];simp only[go_sem,Aa];refine⟨fun mm fr σ'=>∃(i:Nat) (s:List (List Fa)×Nat),mm=cd.length-i∧i≤cd.length∧FI β' σ' x s.1 s.2∧(cd.drop i).foldl (stp r.ho r.bo[k] (lsF r first f l (k+1) m) env got) s=S0∧s.1.length≤s.2+1∧s.2≤30001∧(∀a∈s.1,SmB a)∧fr 0=ptr x∧fr 2=int first∧fr 4= .sl 4 (faC l)∧fr 5= .sl 4 (biC env)∧fr 6= .sl 4 (faC got)∧fr 8=ptr p∧fr 10=ptr q∧fr 14=int k∧fr 15=lc∧fr 16=int i,⟨_,0,(out,d),rfl,by omega,hF,by rw[hS0];rfl,by simp only;omega,hd,hos,f0,f2,f4,f5,f6,f8,f10,f14,f15,rfl⟩,?_⟩;clear f0 f2 f4 f5 f6 f8 f10 f14 f15 hF fr c1 c2;rintro mm fr σ3 ⟨i,s,rfl,hi,hF,hI,hs1,hs2,hs3,f0,f2,f4,f5,f6,f8,f10,f14,f15,f16⟩;have fin:S0=s→FI β σ3 x S0.1 S0.2:=fun e=>by rw[e];exact hF.sub hββ
  obtain⟨lv,x1,x2,x3⟩:=hF;have hF:FI β' σ3 x s.1 s.2:=⟨lv,x1,x2,x3⟩;by_cases hlt:i<cd.length
  ·have d1:=decide_eq_true (show(i:Int)<cd.length by omega)
   by_cases hh:30000<s.2
   ·have d2:=decide_eq_true hh
    simp only[go_sem,Aa,f0,f15,f16,(hR σ3).len,d1,x1,d2];exact Ad (r:=.tup []) rfl (fin (by rw[←hI,Um hh]))
   ·have d2:=decide_eq_false hh
    have w1:IntKind.i64.wrap ((s.2:Int)+1)=((s.2+1:Nat):Int):=Ai (by omega);simp only[go_sem,Aa,f0,f15,f16,(hR σ3).len,d1,x1,d2,w1];refine Co (fun fr σ'=>FI β' σ' x s.1 (s.2+1)∧fr 0=ptr x∧fr 2=int first∧fr 4= .sl 4 (faC l)∧fr 5= .sl 4 (biC env)∧fr 6= .sl 4 (faC got)∧fr 8=ptr p∧fr 10=ptr q∧fr 14=int k∧fr 15=lc∧fr 16=int i) (fun h0=>?_) (fun h0=>?_) ?_
    ·simp only[go_sem,f0]
     have hp:=FI.put (b:=true) x1 x2 x3 (decide_eq_true (show 30000<s.2+1 by omega)).symm
     (and_intros<;>first|assumption|rfl|omega)
    ·simp only[go_sem,f0]
     have hp:=FI.put (b:=false) x1 x2 x3 (decide_eq_false (show¬30000<s.2+1 by omega)).symm
     (and_intros<;>first|assumption|rfl|omega)
    clear f0 f2 f4 f5 f6 f8 f10 f14 f15 f16 hF x1 x2 x3 fin;rintro fr σ4 ⟨hF,f0,f2,f4,f5,f6,f8,f10,f14,f15,f16⟩;have kp4:=hF.keep kp;have kq4:=hF.keep kq;simp only[go_sem];refine Ae [.rd 0 false,.rd 1 true,.rd 2 false,.rd 3 true,.rd 4 false,.rd 5 false,.rd 6 true,.rd 7 false,.rd 8 false,.rd 9 false,.rd 10 true,.rd 11 false,.ef 12 [],.rd 13 false,.rd 14 false,.rd 15 false,.rd 16 false,.rd 17 false] ?_;simp only[go_sem,f5,f8,f14,f15,f16,kp4,Et hkn];refine⟨by omega,(hR σ4).elem (by omega) (by rw[Am];omega) fun e he=>?_⟩;simp only[go_sem];refine he.load (by decide) (by rw[Int.toNat_natCast,Au hlt];exact Nat.le_refl 4) ?_;simp only[go_sem,f5,f8,f14,f15,f16,kp4,Au hlt];refine(Ac8 r.ho r.bo[k] cd[i] env (by omega) (by omega)).mono ?_;rintro _ σ4 ⟨rfl,rfl⟩;have hstep:S0=(cd.drop (i+1)).foldl (stp r.ho r.bo[k] (lsF r first f l (k+1) m) env got) (stp r.ho r.bo[k] (lsF r first f l (k+1) m) env got s cd[i]):=by
     rw[←hI,List.drop_eq_getElem_cons hlt];rfl
    cases hv:Bo r.ho r.bo[k] cd[i] env with
    |none=>
     have e1:stp r.ho r.bo[k] (lsF r first f l (k+1) m) env got s cd[i]=(s.1,s.2+1):=by unfold stp;rw[if_neg hh,hv]
     rw[e1]at hstep;simp only[go_sem,Aa,f0,f2,f4,f5,f6,f8,f10,f14,f15,f16,Ai (show i<9223372036854775807 by omega)];refine⟨cd.length-(i+1),by omega,i+1,(s.1,s.2+1),?_⟩;have hI':=hstep.symm;have k1:s.1.length≤s.2+1+1:=by omega
     have k2:s.2+1≤30001:=by omega
     (and_intros<;>first|assumption|rfl|omega)
    |some e2=>
     have e1:stp r.ho r.bo[k] (lsF r first f l (k+1) m) env got s cd[i]=frm r.ho (lsF r first f l (k+1) m) e2 (got++[cd[i]]) (s.1,s.2+1):=by unfold stp;rw[if_neg hh,hv]
     rw[e1]at hstep;have hel:=Qs hv;simp only[go_sem,Aa];refine Ae [.rd 0 false,.rd 1 true,.rd 2 false,.rd 3 true,.rd 4 false,.rd 5 false,.rd 6 false,.rd 7 false,.rd 9 false,.rd 10 false,.rd 11 false,.rd 12 true,.rd 13 false,.ef 8 [1,3,12],.ef 14 [1,3],.ef 15 []] ?_;simp only[go_sem,Aa,f0,f2,f4,f6,f8,f10,f15,f16,kp4,kq4];refine(hR σ4).elem (by omega) (by rw[Am];omega) fun e he=>?_;simp only[go_sem,Aa];refine he.load (by decide) (by rw[Int.toNat_natCast,Au hlt];exact Nat.le_refl 4) ?_;simp only[go_sem,Aa,f6,Au hlt];refine As (ys:=faC got) (by simp[src]) (by decide) (by decide) (by decide) (LAt.full.app (by rw[Am];simp only[List.length_nil];omega) fun l1 σ5 h1 g1=>?_);have G1:Cd σ4 σ5 l1:=fun y o hy=>g1 y o hy A1;have kp5:=G1.sub _ _ kp4;have kq5:=G1.sub _ _ kq4;simp only[go_sem,Aa,f8,f10,kp5,kq5];refine⟨fun kk hkk=>(he.keep G1.sub).load (by decide) (by rw[Int.toNat_natCast,Au hlt];exact Nat.le_refl 4) (by simp only[go_sem,Au hlt];exact hkk),?_⟩;refine As (ys:=[cd[i].cs]) (by rfl) (by decide) (by decide) (by decide) (h1.app (by rw[List.nil_append,Am];simp only[List.length_nil,List.length_cons];omega) fun l2 σ6 h2 g2=>?_);have G2:=G1.step g2;have kp6:=G2.sub _ _ kp4;have kq6:=G2.sub _ _ kq4;have el:[]++faC got++[cd[i].cs]=faC (got++[cd[i]]):=by simp[faC]
     rw[el]at h2;simp only[go_sem,Aa,f0,f2,f4,f8,f10,kp6,kq6];have hF6:=hF.mono G2.sub;have hF7:FI β' (St.free σ6 l2) x s.1 (s.2+1):=by
      obtain⟨lv,y1,y2,y3⟩:=hF;have hn:=fun y o (hy:σ4 y=some o)=>(G2 y o hy).2;refine⟨lv,by rw[D7 (hn _ _ y1)];exact G2.sub _ _ y1,y2.keep fun y o hy _=>by rw[D7 (hn _ _ hy)];exact G2.sub _ _ hy,fun y o hy=>⟨by rw[D7 (hn _ _ (y3 y o hy).1)];exact G2.sub _ _ (y3 y o hy).1,(y3 y o hy).2⟩⟩
     refine AT.pre (args':=[ptr x,.agg r.cs,int first,.agg f.cs,.sl 4 (faC l),.sl 4 (biC e2),.sl 4 (faC (got++[cd[i]]))]) ((ih (k+1) (by omega) (by simp;omega) (by omega) (fun y hy=>?_) hF7 (by omega) (by omega) hs3).mono ?_) (by kernel_rfl) Qt (vws_same (vws_same (vws_same (vws_same (vws_same (vws_same (vws_cons h2.vw_free By)))))))
     ·rcases List.mem_append.1 hy with hy|hy
      ·exact hgs y hy
      ·rw[List.mem_singleton.1 hy];exact hcs _ (List.getElem_mem hlt)
     intro _ σ7 h7;have hb:=Zy r.ho (lsF r first f l (k+1) m) e2 (got++[cd[i]]) (s.1,s.2+1) (by simp only;omega) (by simp only;omega)
     have hsm:∀a∈(frm r.ho (lsF r first f l (k+1) m) e2 (got++[cd[i]]) (s.1,s.2+1)).1,SmB a:=Ag0 r.ho _ _ _ _ hs3 (fun y hy=>by
      rcases List.mem_append.1 hy with hy|hy
      ·exact hgs y hy
      ·rw[List.mem_singleton.1 hy];exact hcs _ (List.getElem_mem hlt)) (fun pp hpp y hy=>by
      unfold lsF at hpp;obtain⟨j,_,rfl⟩:=List.mem_map.1 hpp;simp only at hy;unfold Cr at hy;split at hy
      ·rw[List.mem_singleton.1 hy];exact hf
      ·exact hls y hy) (by simp[lsF];omega)
     simp only[go_sem,Aa,f0,f2,f4,f5,f6,f8,f10,f14,f15,f16,Ai (show i<9223372036854775807 by omega)];refine⟨cd.length-(i+1),by omega,i+1,frm r.ho (lsF r first f l (k+1) m) e2 (got++[cd[i]]) (s.1,s.2+1),?_⟩;have hI':=hstep.symm;have hb1:=hb.1;have hb2:=hb.2
     (and_intros<;>first|assumption|rfl|omega)
  ·have d1:=decide_eq_false (show¬(i:Int)<cd.length by omega)
   simp only[go_sem,Aa,f0,f15,f16,(hR σ3).len,d1];exact Ad (r:=.tup []) rfl (fin (by rw[←hI,List.drop_of_length_le (by omega)];rfl))
end
section
variable{σ:St}
theorem Ahd(ho:Tm)(l:Li)(f:Fa)(env:List Bi)(hl:env.length≤100000)(ha:l.ar.length≤100000):AT Tryz.prog 160 [.agg ho.cs,.agg l.cs,.agg f.cs,.sl 4 (biC env)] σ fun r σ'=>r=Ie (Bo ho l f env)∧σ'=σ:=by
 refine AT.ob Tryz.func160 rfl ?_;simp only[go_sem];refine Ctx.nil.alloc fun p σ1 c1=>?_;simp only[go_sem];refine c1.alloc fun q σ2 c2=>?_;simp only[go_sem];refine c2.alloc fun x σ3 c3=>?_;by_cases h1:l.nm=f.pr
 ·simp only[go_sem,c3.g2,h1]
  refine aIf_by (fun h2=>?_) (fun h2=>?_)
  ·have h2:l.ar.length=f.ar.length:=by omega
   have hlf:=Acl (ho:=ho) (env:=env) h1 h2;simp only[go_sem];refine Ae [.rd 0 false,.rd 1 true,.rd 2 true,.rd 4 false,.rd 5 true,.rd 7 false,.ef 3 [5],.ef 6 [],.ef 8 [],.rd 9 false,.rd 10 false,.rd 11 false,.rd 12 false,.rd 13 false] ?_;simp only[go_sem,c3.g2];refine(Ah4 l.at' ho).mono ?_;rintro _ σ3 ⟨rfl,rfl⟩;simp only[go_sem,c3.g2];refine(Wm f.at').mono ?_;rintro _ σ3 ⟨rfl,rfl⟩;simp only[go_sem,c3.g2];refine(K6 (orT l.at' ho) (nmC f.at') env (by omega)).mono ?_;rintro _ σ3 ⟨rfl,rfl⟩;simp only[go_sem];cases hu:Bm (orT l.at' ho) (nmC f.at') env with
   |none=>
    have hn:Bo ho l f env=none:=by rw[hlf];unfold Hf;rw[hu];rfl
    simp only[go_sem];exact D1 rfl c3.sub hn
   |some e=>
    have he:=Gr hu;simp only[go_sem,c3.g2];refine Adk ?_;simp only[go_sem];refine Co (fun fr σ'=>∃(b:Bool) (e2:List Bi),σ'=σ3∧(b=true→Hf ho l f env=some e2)∧(b=false→Bo ho l f env=none)∧e2.length≤env.length+2∧fr 3= .sl 4 (biC e2)∧fr 5=ptr q∧fr 6=ptr x∧fr 10=boo b) (fun h0=>?_) (fun h0=>?_) ?_
    ·simp only[go_sem,c3.g2]
     refine⟨decide (f.by'=f.at'),e,?_⟩;have g1:decide (f.by'=f.at')=true→Hf ho l f env=some e:=fun h3=>by unfold Hf;rw[hu];simp[h0,of_decide_eq_true h3]
     have g2:decide (f.by'=f.at')=false→Bo ho l f env=none:=fun h3=>by rw[hlf];unfold Hf;rw[hu];simp[h0,of_decide_eq_false h3]
     (and_intros<;>first|assumption|rfl|omega)
    ·simp only[go_sem]
     refine Ae [.rd 0 false,.rd 1 true,.rd 2 false,.rd 3 true,.rd 5 false,.ef 4 [1],.ef 6 [],.rd 7 false,.rd 8 false,.rd 9 false,.rd 10 false,.rd 11 false] ?_;simp only[go_sem,c3.g2];refine(Wm f.by').mono ?_;rintro _ σ3 ⟨rfl,rfl⟩;simp only[go_sem,c3.g2];refine(K6 l.by' (nmC f.by') e (by omega)).mono ?_;rintro _ σ3 ⟨rfl,rfl⟩;simp only[go_sem];refine⟨(Bm l.by' (nmC f.by') e).isSome,(Bm l.by' (nmC f.by') e).getD [],?_⟩;have g1:(Bm l.by' (nmC f.by') e).isSome=true→Hf ho l f env=some ((Bm l.by' (nmC f.by') e).getD []):=fun h3=>by
      obtain⟨y,hy⟩:=Option.isSome_iff_exists.1 h3;unfold Hf;rw[hu];simp[h0,hy]
     have g2:(Bm l.by' (nmC f.by') e).isSome=false→Bo ho l f env=none:=fun h3=>by
      rw[Option.isSome_eq_false_iff,Option.isNone_iff_eq_none]at h3;rw[hlf];unfold Hf;rw[hu];simp[h0,h3]
     have g3:((Bm l.by' (nmC f.by') e).getD []).length≤env.length+2:=by
      cases hv:Bm l.by' (nmC f.by') e with
      |none=>simp
      |some y=>have:=Gr hv;simp only[Option.getD_some];omega
     (and_intros<;>first|assumption|rfl|omega)
    rintro fr σ4 ⟨b,e2,rfl,g1,g2,hl2,f3,f5,f6,f10⟩;simp only[go_sem,Aa,f5,c3.g2];refine⟨fun m fr σ''=>∃(i:Nat) (b:Bool) (ei:List Bi),m=l.ar.length-i∧i≤l.ar.length∧Ctx σ [(x,.cells f.cs),(q,.cells l.cs),(p,.cells ho.cs)] σ''∧(b=true→(Hf ho l f env).bind (Ib ((l.ar.take i).zip (f.ar.take i)))=some ei)∧(b=false→Bo ho l f env=none)∧ei.length≤env.length+2+i∧fr 3= .sl 4 (biC ei)∧fr 6=ptr x∧fr 10=boo b∧fr 61= .sl 4 (tmC l.ar)∧fr 62=int l.ar.length∧fr 63=int i,⟨_,0,b,e2,rfl,by omega,c3,fun h=>(by rw[g1 h];rfl),g2,by omega,f3,f6,f10,rfl,rfl,rfl⟩,?_⟩;clear f3 f5 f6 f10 g1 g2 c3 c2 c1 hl2 hu he;rintro m fr σ4 ⟨i,b,ei,rfl,hi,c3,g1,g2,hli,f3,f6,f10,f61,f62,f63⟩;simp only[go_sem,f62,f63];refine aIf_by (fun hlt=>?_) (fun hlt=>?_)
    ·have hil:i<l.ar.length:=by omega
     have hif:i<f.ar.length:=by omega
     simp only[go_sem,Aa,f61,f63,Im hil];refine⟨by omega,c3.alloc fun r σ5 c4=>?_⟩;obtain⟨σ6,e6,c5⟩:=c4.abs 0 rfl (.cells l.ar[i].cs);simp only[go_sem,c4.g3,e6,f10];cases b with
     |false=>
      simp only[go_sem,f10];exact D1 rfl c5.sub (g2 rfl)
     |true=>
      have g1:=g1 rfl;simp only[go_sem,Aa];refine Ae [.rd 0 true,.rd 1 false,.rd 2 true,.rd 3 false,.rd 4 false,.rd 5 true,.rd 6 false,.ef 7 [],.rd 8 false,.rd 9 false,.rd 10 false,.rd 11 false,.rd 12 false] ?_;simp only[go_sem,Aa,f3,f6,f10,f63,c5.g3,Fl hif];refine⟨by omega,(K6 l.ar[i] f.ar[i] ei (by omega)).mono ?_⟩;rintro _ σ6 ⟨rfl,rfl⟩;simp only[go_sem,Aa,f6,f61,f62,f63,Ai (show i<9223372036854775807 by omega)];have hs:(Hf ho l f env).bind (Ib ((l.ar.take (i+1)).zip (f.ar.take (i+1))))=Bm l.ar[i] f.ar[i] ei:=by
       cases hA:Hf ho l f env with
       |none=>rw[hA]at g1;cases g1
       |some a=>
        rw[hA]at g1;rw[Option.bind_some]at g1⊢;rw[Uq hil hif,g1];rfl
      refine⟨l.ar.length-(i+1),by omega,i+1,(Bm l.ar[i] f.ar[i] ei).isSome,(Bm l.ar[i] f.ar[i] ei).getD [],?_⟩;have k1:(Bm l.ar[i] f.ar[i] ei).isSome=true→(Hf ho l f env).bind (Ib ((l.ar.take (i+1)).zip (f.ar.take (i+1))))=some ((Bm l.ar[i] f.ar[i] ei).getD []):=fun h3=>by
       obtain⟨y,hy⟩:=Option.isSome_iff_exists.1 h3;rw[hs,hy];rfl
      have k2:(Bm l.ar[i] f.ar[i] ei).isSome=false→Bo ho l f env=none:=fun h3=>by
       rw[Option.isSome_eq_false_iff,Option.isNone_iff_eq_none]at h3;rw[h3]at hs;have e1:l.ar.zip f.ar=(l.ar.take (i+1)).zip (f.ar.take (i+1))++(l.ar.drop (i+1)).zip (f.ar.drop (i+1)):=by
        rw[←List.zip_append (by simp;omega),List.take_append_drop,List.take_append_drop]
       rw[hlf,e1];cases hA:Hf ho l f env with
       |none=>rfl
       |some a=>
        rw[hA,Option.bind_some]at hs;rw[Option.bind_some,S9,hs];rfl
      have k3:((Bm l.ar[i] f.ar[i] ei).getD []).length≤env.length+2+(i+1):=by
       cases hv:Bm l.ar[i] f.ar[i] ei with
       |none=>simp
       |some y=>have:=Gr hv;simp only[Option.getD_some];omega
      have k4:=c5.tl
      (and_intros<;>first|assumption|rfl|omega)
    ·simp only[go_sem,Aa,f3,f10]
     cases b with
     |false=>
      simp only[go_sem];exact D1 rfl c3.sub (g2 rfl)
     |true=>
      have g1:=g1 rfl;rw[List.take_of_length_le (by omega),List.take_of_length_le (by omega)]at g1;simp only[go_sem,f3];exact Ac7 rfl c3.sub (by rw[hlf,g1])
  ·have hn:Bo ho l f env=none:=Nv fun h=>h2 (by rw[h.2])
   simp only[go_sem];exact D1 rfl c3.sub hn
 ·have hn:Bo ho l f env=none:=Nv fun h=>h1 h.1
  simp only[go_sem,c3.g2,h1];exact D1 rfl c3.sub hn
end
section
variable{σ:St}{lv:AV}{vs:List ByteArray}
theorem Ag8(l:Li)(ha:l.ar.length≤1000000)(hl:vs.length≤1000000000000)(h:Rd 1 σ lv (stC vs)):AT Tryz.prog 159 [.agg l.cs,lv] σ fun r σ'=>r=int (knL l vs)∧σ'=σ:=by
 refine AT.ob Tryz.func159 rfl ?_;simp only[go_sem];refine Ax fun b hb _=>?_;simp only[go_sem,Aa,Ab];refine As (ys:=tmC l.ar) (by simp[src]) (by decide) (by decide) (by decide) (LAt.full.app (by rw[Jz];simp;omega) fun lw σ1 hw hs=>?_);have hno:∀x,¬Own (.fsl 4 [l.by'.cs]) x:=fun x ⟨n,c,e⟩=>by cases e
 have hs1:∀x o,σ x=some o→σ1 x=some o:=fun x o hx=>(hs x o (Bt hb (fun _ _ h=>h) x o hx) (hno x)).1;have hw:LAt 4 σ1 lw (tmC (l.by'::l.ar)):=hw;obtain⟨ts,hts⟩:∃ts,ts=l.by'::l.ar:=⟨_,rfl⟩
 have htl:ts.length≤1000001:=by subst hts;simp;omega
 rw[←hts]at hw;simp only[go_sem,Aa,hw.len];refine⟨fun m fr σ'=>∃i:Nat,m=ts.length-i∧i≤ts.length∧(∀x o,σ1 x=some o→σ' x=some o)∧fr 1=lv∧fr 13=lw∧fr 14=int ts.length∧fr 15=int i∧fr 5=int (knS (ts.take i) vs),⟨_,0,rfl,by omega,fun _ _ h=>h,rfl,rfl,rfl,rfl,rfl⟩,?_⟩;clear hb;rintro m fr σ2 ⟨i,rfl,h1,h2,f1,f13,f14,f15,f5⟩;simp only[go_sem,f13,f14,f15];refine aIf_by (fun hlt=>?_) (fun hlt=>?_)
 ·have hi:i<ts.length:=by omega
  have hw2:LAt 4 σ2 lw (tmC ts):=hw.keep fun x o hx _=>h2 x o hx;simp only[go_sem,Aa,f13,f15];refine hw2.elem (by omega) (by rw[Jz];omega) fun p hp=>?_;simp only[go_sem,Aa];refine hp.load (by omega) (by rw[Int.toNat_natCast,Im hi];exact Nat.le_refl 4) ?_;simp only[go_sem,Im hi];refine Ax fun c hc hcn=>?_;have h3:∀x o,σ1 x=some o→x≠c:=fun x o hx=>hcn x o (h2 x o hx);have e:knS (ts.take (i+1)) vs=_:=Ag7 vs hi;have hk:=Ag6 vs (ts.take i);have hk2:=Am3 ts[i] vs;rw[List.length_take]at hk;simp only[go_sem,Aa,Ab];refine Air ?_;have go:∀x o,σ1 x=some o→(σ2.set c (.cells ts[i].cs)) x=some o:=fun x o hx=>by
   rw[Ag (h3 x o hx)];exact h2 x o hx
  have hr:Rd 1 (σ2.set c (.cells ts[i].cs)) lv (stC vs):=h.keep fun x o hx=>go x o (hs1 x o hx);by_cases g1:ts[i]= .zero
  ·have ek:kn ts[i] vs=0:=by unfold kn;rw[if_neg (fun h=>h.1 g1)]
   simp only[go_sem,Aa,decide_eq_true g1,Bool.not_true,f15,f14,f13,f5,f1,Ai (show i<9223372036854775807 by omega)];refine⟨ts.length-(i+1),by omega,i+1,rfl,by omega,go,rfl,by rw[e,ek];rfl⟩
  by_cases g2:ts[i].v=emp
  ·have ek:kn ts[i] vs=1:=by unfold kn;rw[if_pos ⟨g1,.inl g2⟩]
   simp only[go_sem,Aa,decide_eq_false g1,Bool.not_false,Ab,decide_eq_true g2,f15,f14,f13,f5,f1,Ai (show i<9223372036854775807 by omega),Ai (show knS (ts.take i) vs<9223372036854775807 by omega)];refine⟨ts.length-(i+1),by omega,i+1,rfl,by omega,go,rfl,by rw[e,ek]⟩
  ·simp only[go_sem,Aa,decide_eq_false g1,Bool.not_false,Ab,decide_eq_false g2,f1]
   refine(Z1 hl hr).mono ?_;rintro _ σ3 ⟨rfl,rfl⟩;simp only[go_sem,Aa,decide_eq_false g1,Bool.not_false,decide_eq_false g2];refine aIf_by (fun g3=>?_) (fun g3=>?_)
   ·have ek:kn ts[i] vs=1:=by unfold kn;rw[if_pos ⟨g1,.inr g3⟩]
    simp only[go_sem,Aa,f15,f14,f13,f5,f1,Ai (show i<9223372036854775807 by omega),Ai (show knS (ts.take i) vs<9223372036854775807 by omega)];exact⟨ts.length-(i+1),by omega,i+1,rfl,by omega,go,rfl,by rw[e,ek]⟩
   ·have ek:kn ts[i] vs=0:=by unfold kn;rw[if_neg (fun h=>h.2.elim g2 g3)]
    simp only[go_sem,Aa,f15,f14,f13,f5,f1,Ai (show i<9223372036854775807 by omega)];exact⟨ts.length-(i+1),by omega,i+1,rfl,by omega,go,rfl,by rw[e,ek];rfl⟩
 ·simp only[go_sem,Aa,f5]
  rw[List.take_of_length_le (by omega)];refine Af (r:=int (knS ts vs)) rfl _ σ (Aq fun x o hx=>h2 x o (hs1 x o hx)) ⟨by rw[hts];rfl,rfl⟩
end
structure CV(q:Nat)(σ:St)(p:Nat)(lv:AV)(es:List (List AV)):Prop where
 cell:σ p=some (.cells [lv])
 lat:LAt q σ lv es
def Off(p:Nat)(lv:AV)(x:Nat):Prop:=x≠p∧¬Own lv x
section
variable{q:Nat}{σ σ' σ1:St}{p:Nat}{lv lw:AV}{es es':List (List AV)}
theorem CV.keep(h:CV q σ p lv es)(hs:∀x o,σ x=some o→¬Off p lv x→σ' x=some o):CV q σ' p lv es:=
 ⟨hs _ _ h.cell fun e=>e.1 rfl,h.lat.keep fun x o hx ho=>hs x o hx fun e=>e.2 ho⟩
theorem CV.some(h:CV q σ p lv es){x:Nat}(hx:¬Off p lv x):∃o,σ x=Option.some o:=by
 by_cases e:x=p
 ·exact⟨_,e▸h.cell⟩
 ·by_cases e2:Own lv x
  ·obtain⟨c,hc⟩:=h.lat.own_rows e2
   exact⟨_,hc⟩
  ·exact absurd ⟨e,e2⟩ hx
theorem CV.off(h:CV q σ p lv es){x:Nat}{ob:B7}(hx:σ x=Option.some ob)(n1:∀a,ob≠.cells [a])(n2:∀es f c,ob≠.rows q es f c):Off p lv x:=
 ⟨fun e=>by subst e;exact n1 _ (Option.some.inj (hx.symm.trans h.cell)),fun e=>by obtain⟨c,hc⟩:=h.lat.own_rows e;exact n2 _ _ _ (Option.some.inj (hx.symm.trans hc))⟩
theorem CV.step(h:CV q σ p lv es)(hw:LAt q σ1 lw es')(hs:∀x o,σ x=Option.some o→¬Own lv x→σ1 x=Option.some o∧¬Own lw x):
  CV q (σ1.set p (.cells [lw])) p lw es'∧∀x o,σ x=Option.some o→Off p lv x→(σ1.set p (.cells [lw])) x=Option.some o∧Off p lw x:=by
 have h1:=hs p _ h.cell (h.lat.not_own h.cell);refine⟨⟨Ab,Ala hw h1.1 h1.2⟩,fun x o hx ho=>?_⟩;have h2:=hs x o hx ho.2;exact⟨by rw[Ag ho.1];exact h2.1,ho.1,h2.2⟩
end
def PO(β σ:St)(o v:Nat)(out:List Int)(vs:List ByteArray):Prop:=
 ∃lo lw,CV 1 σ o lo (inC out)∧CV 1 σ v lw (stC vs)∧(∀x,Off o lo x∨Off v lw x)∧∀x p,β x=some p→σ x=some p∧Off o lo x∧Off v lw x
section
variable{β σ:St}{o v:Nat}{ou:List Int}{vs:List ByteArray}
theorem PO.sub(h:PO β σ o v ou vs):∀x p,β x=some p→σ x=some p:=by
 obtain⟨lo,lw,h1,h2,h3,h4⟩:=h;exact fun x p hx=>(h4 x p hx).1
theorem PO.keep(h:PO β σ o v ou vs){σ':St}(hs:∀x p,σ x=some p→σ' x=some p):PO β σ' o v ou vs:=by
 obtain⟨lo,lw,h1,h2,h3,h4⟩:=h;exact⟨lo,lw,h1.keep fun x p hx _=>hs x p hx,h2.keep fun x p hx _=>hs x p hx,h3,fun x p hx=>⟨hs x p (h4 x p hx).1,(h4 x p hx).2⟩⟩
theorem PO.weak(h:PO β σ o v ou vs){γ:St}(hs:∀x p,γ x=some p→β x=some p):PO γ σ o v ou vs:=by
 obtain⟨lo,lw,h1,h2,h3,h4⟩:=h;exact⟨lo,lw,h1,h2,h3,fun x p hx=>h4 x p (hs x p hx)⟩
theorem PO.new(h:PO β σ o v ou vs){c:Nat}{ob:B7}(hc:σ c=none):PO β (σ.set c ob) o v ou vs:=by
 obtain⟨lo,lw,h1,h2,h3,h4⟩:=h;have hs:∀x p,σ x=some p→(σ.set c ob) x=some p:=Bt hc fun _ _ h=>h;exact⟨lo,lw,h1.keep fun x p hx _=>hs x p hx,h2.keep fun x p hx _=>hs x p hx,h3,fun x p hx=>⟨hs x p (h4 x p hx).1,(h4 x p hx).2⟩⟩
theorem PO.base(h:PO β σ o v ou vs):∃γ,PO γ σ o v ou vs∧(∀x p,β x=some p→γ x=some p)∧∀x p,σ x=some p→(∀a,p≠.cells [a])→(∀es f c,p≠.rows 1 es f c)→γ x=some p:=by
 obtain⟨lo,lw,h1,h2,h3,h4⟩:=h;refine⟨fun x=>open Classical in if Off o lo x∧Off v lw x then σ x else none,⟨lo,lw,h1,h2,h3,fun x p hx=>?_⟩,fun x p hx=>?_,fun x p hx n1 n2=>?_⟩
 ·by_cases e:Off o lo x∧Off v lw x
  ·simp only[e,and_self,if_true]at hx;exact⟨hx,e⟩
  ·simp only[e,if_false]at hx;cases hx
 ·have:=h4 x p hx
  simp only[this.2,and_self,if_true];exact this.1
 ·have:=And.intro (h1.off hx n1 n2) (h2.off hx n1 n2)
  simp only[this,and_self,if_true];exact hx
theorem PO.num(h:PO β σ o v ou vs):∃lo,σ o=some (.cells [lo])∧LAt 1 σ lo (inC ou)∧∀σ1 lo' ou',LAt 1 σ1 lo' (inC ou')→(∀x p,σ x=some p→¬Own lo x→σ1 x=some p∧¬Own lo' x)→σ1 o=some (.cells [lo])∧PO β (σ1.set o (.cells [lo'])) o v ou' vs:=by
 obtain⟨lo,lw,h1,h2,h3,h4⟩:=h;refine⟨lo,h1.cell,h1.lat,fun σ1 lo' ou' hl hs=>?_⟩;obtain⟨g1,g2⟩:=h1.step hl hs;have k2:CV 1 (σ1.set o (.cells [lo'])) v lw (stC vs):=h2.keep fun x p hx hn=>(g2 x p hx ((h3 x).resolve_right hn)).1;refine⟨(hs o _ h1.cell (h1.lat.not_own h1.cell)).1,lo',lw,g1,k2,fun x=>?_,fun x p hx=>?_⟩
 ·by_cases e:Off v lw x
  ·exact .inr e
  ·obtain⟨p,hp⟩:=h2.some e
   exact .inl (g2 x p hp ((h3 x).resolve_right e)).2
 ·have:=h4 x p hx
  have k:=g2 x p this.1 this.2.1;exact⟨k.1,k.2,this.2.2⟩
theorem PO.var(h:PO β σ o v ou vs):∃lw,σ v=some (.cells [lw])∧LAt 1 σ lw (stC vs)∧∀σ1 lw' vs',LAt 1 σ1 lw' (stC vs')→(∀x p,σ x=some p→¬Own lw x→σ1 x=some p∧¬Own lw' x)→σ1 v=some (.cells [lw])∧PO β (σ1.set v (.cells [lw'])) o v ou vs':=by
 obtain⟨lo,lw,h1,h2,h3,h4⟩:=h;refine⟨lw,h2.cell,h2.lat,fun σ1 lw' vs' hl hs=>?_⟩;obtain⟨g1,g2⟩:=h2.step hl hs;have k2:CV 1 (σ1.set v (.cells [lw'])) o lo (inC ou):=h1.keep fun x p hx hn=>(g2 x p hx ((h3 x).resolve_left hn)).1;refine⟨(hs v _ h2.cell (h2.lat.not_own h2.cell)).1,lo,lw',k2,g1,fun x=>?_,fun x p hx=>?_⟩
 ·by_cases e:Off o lo x
  ·exact .inl e
  ·obtain⟨p,hp⟩:=h1.some e
   exact .inr (g2 x p hp ((h3 x).resolve_left e)).2
 ·have:=h4 x p hx
  have k:=g2 x p this.1 this.2.2;exact⟨k.1,this.2.1,k.2⟩
end
section
variable{β σ:St}{o v b:Nat}{out:List Nat}{vs:List ByteArray}
def Id(l:List Nat):List Int:=l.map Int.ofNat
@[go_sem] theorem H3(l:List Nat):(Id l).length=l.length:=by simp[Id]
theorem Aes{l:List Nat}{n:Nat}:inC (Id l)++[[int n]]=inC (Id (l++[n])):=by simp[inC,Id]
theorem Adi(r:Rl){k:Nat}(hk:k<r.bo.length)(hb:β b=some (.cells r.cs))(h:PO β σ o v (Id out) vs)(h1:out.length≤1000000)(h2:vs.length≤1000000)(h3:r.bo[k].ar.length≤1000000):
  AT Tryz.prog 158 [int k,ptr o,ptr b,ptr v] σ fun _ σ'=>PO β σ' o v (Id (out++[k])) (ofLi r.bo[k] vs):=by
 refine AT.ob Tryz.func158 rfl ?_;obtain⟨lo,c1,c2,c3⟩:=h.num;simp only[go_sem,Aa,c1,c2.one,c2.cells];refine As (ys:=[[int k]]) (by simp[src]) (by decide) (by decide) (by decide) (c2.app (by rw[Vm,H3];simp;omega) fun lo' σ1 hl hs=>?_);rw[Aes]at hl;obtain⟨d1,d2⟩:=c3 σ1 lo' _ hl hs;simp only[go_sem,d1,hl.one,hl.cells];clear c1 c2 c3 hs h hl d1;revert d2;generalize σ1.set o (.cells [lo'])=σ2;intro h;have hb2:=h.sub _ _ hb;simp only[go_sem,Aa,hb2,Et hk];refine⟨by omega,Ax fun c hc hcn=>?_⟩;have h':=h.new (ob:=.cells r.bo[k].cs) hc;obtain⟨γ,g1,g2,g3⟩:=h'.base;have hcc:γ c=some (.cells r.bo[k].cs):=g3 c _ Ab (fun a e=>by injection e with e;exact absurd (congrArg List.length e) (by rw[Li.len];simp)) (fun _ _ _ e=>by cases e);simp only[go_sem,Aa,Ab];clear hcn h hb2 hc;revert h' g1 g2 g3 hcc;intro h' g1 g2 g3 hcc;refine As (ys:=tmC r.bo[k].ar) (by simp[src]) (by decide) (by decide) (by decide) (LAt.full.app (by rw[Jz];simp;omega) fun lt σ3 hw hs=>?_);have hno:∀x,¬Own (.fsl 4 [r.bo[k].by'.cs,r.bo[k].at'.cs]) x:=fun x ⟨n,c,e⟩=>by cases e
 have g4:=g1.keep fun x o hx=>(hs x o hx (hno x)).1;clear h' g3 hs hno hcc;have hw:LAt 4 σ3 lt (tmC (r.bo[k].by'::r.bo[k].at'::r.bo[k].ar)):=hw;obtain⟨ts,hts⟩:∃ts,ts=r.bo[k].by'::r.bo[k].at'::r.bo[k].ar:=⟨_,rfl⟩
 have htl:ts.length≤1000002:=by subst hts;simp;omega
 rw[←hts]at hw;obtain⟨δ,d1,d2,d3⟩:=g4.base
 have hw0:LAt 4 δ lt (tmC ts):=hw.keep fun x o hx ho=>d3 x o hx (fun a e=>by subst e;exact hw.not_own hx ho) (fun es f c e=>by
  obtain⟨c',hc'⟩:=hw.own_rows ho;rw[hx]at hc';rw[e]at hc';cases hc')
 simp only[go_sem,Aa,hw.len];refine⟨fun m fr σ'=>∃i:Nat,m=ts.length-i∧i≤ts.length∧PO δ σ' o v (Id (out++[k])) (vs++(ts.take i).map Tm.v)∧fr 3=ptr v∧fr 24=lt∧fr 25=int ts.length∧fr 26=int i,⟨_,0,rfl,by omega,by simpa using d1,rfl,rfl,rfl,rfl⟩,?_⟩;rintro m fr σ4 ⟨i,rfl,h1,h,f3,f24,f25,f26⟩;simp only[go_sem,f24,f25,f26];refine aIf_by (fun hlt=>?_) (fun hlt=>?_)
 ·have hi:i<ts.length:=by omega
  have hw2:LAt 4 σ4 lt (tmC ts):=hw0.keep fun x o hx _=>h.sub x o hx;simp only[go_sem,Aa,f24,f26];refine hw2.elem (by omega) (by rw[Jz];omega) fun p hp=>?_;simp only[go_sem,Aa];refine hp.load (by omega) (by rw[Int.toNat_natCast,Im hi];exact Nat.le_refl 4) ?_;simp only[go_sem,Im hi];refine Ax fun d hd hdn=>?_;have h:=h.new (ob:=.cells ts[i].cs) hd;obtain⟨lw,c1,c2,c3⟩:=h.var;simp only[go_sem,Aa,Ab,f3,c1,c2.one,c2.cells];have hvl:((vs++(ts.take i).map Tm.v).length:Nat)≤2000002:=by simp;omega
  refine As (ys:=[[str ts[i].v]]) (by simp[src]) (by decide) (by decide) (by decide) (c2.app (by rw[Wg];simp only[List.length_cons,List.length_nil];omega) fun lw' σ5 hl hs=>?_);have e:vs++(ts.take (i+1)).map Tm.v=(vs++(ts.take i).map Tm.v)++[ts[i].v]:=by
   rw[List.take_add_one,List.getElem?_eq_getElem hi,List.map_append,←List.append_assoc];rfl
  have e2:stC (vs++(ts.take i).map Tm.v)++[[str ts[i].v]]=stC (vs++(ts.take (i+1)).map Tm.v):=by rw[e];simp[stC]
  rw[e2]at hl;obtain⟨q1,q2⟩:=c3 σ5 lw' _ hl hs;simp only[go_sem,Aa,f3,q1,hl.one,hl.cells,f26,f25,f24,Ai (show i<9223372036854775807 by omega)];exact⟨ts.length-(i+1),by omega,i+1,rfl,by omega,q2,rfl⟩
 ·simp only[go_sem,Aa]
  rw[List.take_of_length_le (by omega)]at h;refine Ad (r:=.tup []) rfl ?_;have e:vs++ts.map Tm.v=ofLi r.bo[k] vs:=by rw[hts];rfl
  rw[←e];exact h.weak fun x p hx=>d2 x p (g2 x p hx)
end
def bst(bo:List Li)(out:List Nat)(vs:List ByteArray):Nat→Int×Int
 |0=>(-1,-1)
 |k+1=>if k∉out∧(bst bo out vs k).2<(knL (bo.getD k .zero) vs:Int)then((k:Int),(knL (bo.getD k .zero) vs:Int))else bst bo out vs k
def Sb(bo:List Li):Nat→List Nat→List ByteArray→List Nat
 |0,out,_=>out
 |f+1,out,vs=>Sb bo f (out++[(bst bo out vs bo.length).1.toNat]) (ofLi (bo.getD (bst bo out vs bo.length).1.toNat .zero) vs)
def Hh(r:Rl)(first:Int):List Nat:=
 if 0≤first∧first<r.bo.length then Sb r.bo (r.bo.length-1) [first.toNat] (ofLi (r.bo.getD first.toNat .zero) [r.ho.v])else Sb r.bo r.bo.length [] [r.ho.v]
theorem Aft(bo:List Li)(out:List Nat)(vs:List ByteArray):∀k,((bst bo out vs k).1= -1∧(bst bo out vs k).2= -1∧∀j,j<k→j∈out)∨∃b:Nat,(bst bo out vs k).1=b∧b<k∧b∉out∧0≤(bst bo out vs k).2
 |0=>.inl ⟨rfl,rfl,fun j h=>by omega⟩
 |k+1=>by
  have ih:=Aft bo out vs k;unfold bst;split
  ·rename_i h
   exact .inr ⟨k,rfl,by omega,h.1,by show(0:Int)≤((knL _ _:Nat):Int);omega⟩
  ·rename_i h
   rcases ih with⟨h1,h2,h3⟩|⟨b,h1,h2,h3,h4⟩
   ·refine .inl ⟨h1,h2,fun j hj=>?_⟩
    by_cases e:j=k
    ·subst e
     exact Classical.byContradiction fun hn=>h ⟨hn,by rw[h2];omega⟩
    ·exact h3 j (by omega)
   ·exact .inr ⟨b,h1,by omega,h3,h4⟩
def Perm(n:Nat)(l:List Nat):Prop:=l.Nodup∧∀k∈l,k<n
theorem Jb:∀(n:Nat) (l:List Nat),Perm n l→l.length≤n
 |0,l,h=>by
  cases l with
  |nil=>simp
  |cons a l=>have:=h.2 a (by simp);omega
 |n+1,l,h=>by
  have hp:Perm n (l.filter (· ≠n)):=⟨h.1.filter _,fun k hk=>by
   have hk:=List.mem_filter.1 hk;have:=h.2 k hk.1;have:k≠n:=by simpa using hk.2
   omega⟩
  have ih:=Jb n _ hp;have:=count_one h.1;have hl:l.length≤(l.filter (· ≠n)).length+1:=this n;omega
where
 count_one:∀{l:List Nat},l.Nodup→∀n,l.length≤(l.filter (· ≠n)).length+1
 | [],_,n=>by simp
 |a::l,h,n=>by
  have hh:=List.nodup_cons.1 h;by_cases e:a=n
  ·subst e
   have:l.filter (· ≠a)=l:=List.filter_eq_self.2 fun x hx=>by
    have:x≠a:=fun e=>hh.1 (e▸hx);simpa using this
   simp only[List.filter_cons,ne_eq,not_true_eq_false,decide_false,Bool.false_eq_true,if_false,List.length_cons];simp only[ne_eq]at this;rw[this];exact Nat.le_refl _
  ·have:=count_one hh.2 n
   simp only[List.filter_cons,ne_eq,e,not_false_eq_true,decide_true,if_true,List.length_cons]at*;omega
theorem Aew{n:Nat}{l:List Nat}(h:Perm n l)(hl:l.length<n):∃j,j<n∧j∉l:=Classical.byContradiction fun hn=>by
 have hp:Perm l.length (List.range n)→False:=fun h=>by have:=Jb _ _ h;simp at this;omega
 have hs:∀j,j<n→j∈l:=fun j hj=>Classical.byContradiction fun hm=>hn ⟨j,hj,hm⟩;have:=(List.nodup_range (n:=n)).length_le_of_subset (l₂:=l) (fun j hj=>hs j (List.mem_range.1 hj));simp at this;omega
theorem Ua{bo:List Li}{out:List Nat}{vs:List ByteArray}(h:Perm bo.length out)(hl:out.length<bo.length):
  ∃b:Nat,(bst bo out vs bo.length).1=b∧b<bo.length∧b∉out∧Perm bo.length (out++[b]):=by
 rcases Aft bo out vs bo.length with⟨h1,h2,h3⟩|⟨b,h1,h2,h3,h4⟩
 ·obtain⟨j,hj,hn⟩:=Aew h hl
  exact absurd (h3 j hj) hn
 ·refine⟨b,h1,h2,h3,?_,fun k hk=>?_⟩
  ·rw[List.nodup_append]
   exact⟨h.1,by simp,fun a ha c hc=>by simp at hc;subst hc;exact fun e=>h3 (e▸ha)⟩
  ·rcases List.mem_append.1 hk with hk|hk
   ·exact h.2 k hk
   ·simp at hk;omega
theorem Vt{bo:List Li}:∀(f:Nat) (out:List Nat) (vs:List ByteArray),f=bo.length-out.length→Perm bo.length out→Perm bo.length (Sb bo f out vs)∧(Sb bo f out vs).length=bo.length∧∀i (h:i<out.length),(Sb bo f out vs)[i]? =some out[i]
 |0,out,vs,hf,h=>by
  have:=Jb _ _ h;exact⟨h,by unfold Sb;omega,fun i h=>by unfold Sb;simp[h]⟩
 |f+1,out,vs,hf,h=>by
  obtain⟨b,h1,h2,h3,h4⟩:=Ua (vs:=vs) h (by omega);have ih:=Vt f (out++[b]) (ofLi (bo.getD b .zero) vs) (by simp;omega) h4;unfold Sb;rw[h1];refine⟨ih.1,ih.2.1,fun i hi=>?_⟩;rw[show((b:Nat):Int).toNat=b from rfl,ih.2.2 i (by simp;omega)];rw[List.getElem_append_left hi]
theorem N7(r:Rl)(first:Int):Perm r.bo.length (Hh r first)∧(Hh r first).length=r.bo.length∧(0≤first∧first<r.bo.length→(Hh r first)[0]? =some first.toNat):=by
 unfold Hh;split
 ·rename_i h
  have:=Vt (bo:=r.bo) (r.bo.length-1) [first.toNat] (ofLi (r.bo.getD first.toNat .zero) [r.ho.v]) rfl ⟨by simp,fun k hk=>by simp at hk;omega⟩;exact⟨this.1,this.2.1,fun _=>this.2.2 0 (by simp)⟩
 ·rename_i h
  have:=Vt (bo:=r.bo) r.bo.length [] [r.ho.v] rfl ⟨by simp,fun k hk=>by cases hk⟩;exact⟨this.1,this.2.1,fun e=>absurd e h⟩
def Rl.Ok(r:Rl):Prop:=r.bo.length≤300∧∀l∈r.bo,l.ar.length≤300
theorem Yg(l:Li)(vs:List ByteArray):(ofLi l vs).length=vs.length+2+l.ar.length:=by
 simp[ofLi];omega
def LO(r:Rl)(first:Int)(ou:List Nat)(vs:List ByteArray):Prop:=
 Perm r.bo.length ou∧vs.length≤1+ou.length*302∧Sb r.bo (r.bo.length-ou.length) ou vs=Hh r first
theorem Vo{l:List Li}{i:Nat}(h:i<l.length):l.getD i .zero=l[i]:=by simp[List.getD_eq_getElem?_getD,h]
theorem LO.first{r:Rl}{first:Int}(hr:r.Ok)(h0:0≤first)(h1:first.toNat<r.bo.length):LO r first [first.toNat] (ofLi r.bo[first.toNat] [r.ho.v]):=by
 refine⟨⟨by simp,fun k hk=>by simp at hk;omega⟩,?_,?_⟩
 ·have:=hr.2 _ (List.getElem_mem h1)
  rw[Yg];simp;omega
 ·unfold Hh
  rw[if_pos ⟨h0,by omega⟩,Vo h1];rfl
theorem LO.start{r:Rl}{first:Int}(h:¬(0≤first∧first<r.bo.length)):LO r first [] [r.ho.v]:=by
 refine⟨⟨by simp,fun k hk=>by cases hk⟩,by simp,?_⟩;unfold Hh;rw[if_neg h];rfl
theorem LO.next{r:Rl}{first:Int}{ou:List Nat}{vs:List ByteArray}(hr:r.Ok)(h:LO r first ou vs)(hl:ou.length<r.bo.length):
  ∃(b:Nat) (hb:b<r.bo.length),(bst r.bo ou vs r.bo.length).1=b∧LO r first (ou++[b]) (ofLi r.bo[b] vs):=by
 obtain⟨h1,h2,h3⟩:=h;obtain⟨b,e,hb,hn,hp⟩:=Ua (vs:=vs) h1 hl;refine⟨b,hb,e,hp,?_,?_⟩
 ·have:=hr.2 _ (List.getElem_mem hb)
  rw[Yg];simp;omega
 ·obtain⟨f,hf⟩:∃f,r.bo.length-ou.length=f+1:=⟨r.bo.length-ou.length-1,by omega⟩
  rw[hf]at h3;unfold Sb at h3;rw[e,show((b:Nat):Int).toNat=b from rfl,Vo hb]at h3;rw[←h3]
  congr 1
  simp;omega
theorem LO.done{r:Rl}{first:Int}{ou:List Nat}{vs:List ByteArray}(h:LO r first ou vs)(hl:¬ou.length<r.bo.length):ou=Hh r first:=by
 obtain⟨h1,h2,h3⟩:=h;rw[←h3,show r.bo.length-ou.length=0 by omega];rfl
theorem LO.len{r:Rl}{first:Int}{ou:List Nat}{vs:List ByteArray}(hr:r.Ok)(h:LO r first ou vs):ou.length≤300∧vs.length≤90601:=by
 have:=Jb _ _ h.1;have:=hr.1;have:=h.2.1;omega
def fiC(r:Rl)(ov:AV)(f:Fa)(lv gv xv:AV)(first:Int):List AV:=r.cs++ov::(f.cs++[lv,gv,xv,int first])
section
variable(r:Rl)(ov:AV)(f:Fa)(lv gv xv:AV)(first:Int)
@[go_sem] theorem Aq3:(fiC r ov f lv gv xv first).length=20:=rfl
@[go_sem] theorem Avh:(fiC r ov f lv gv xv first).take 4=r.ho.cs:=rfl
@[go_sem] theorem As5:((fiC r ov f lv gv xv first).drop 10).getD 0 (.v undef)= .sl 10 (liC r.bo):=rfl
@[go_sem] theorem As6:((fiC r ov f lv gv xv first).drop 11).getD 0 (.v undef)=ov:=rfl
@[go_sem] theorem As7:((fiC r ov f lv gv xv first).drop 12).take 4=f.cs:=rfl
@[go_sem] theorem As8:((fiC r ov f lv gv xv first).drop 16).getD 0 (.v undef)=lv:=rfl
@[go_sem] theorem As9:((fiC r ov f lv gv xv first).drop 17).getD 0 (.v undef)=gv:=rfl
@[go_sem] theorem Ata:((fiC r ov f lv gv xv first).drop 18).getD 0 (.v undef)=xv:=rfl
@[go_sem] theorem Atb:((fiC r ov f lv gv xv first).drop 19).getD 0 (.v undef)=int first:=rfl
@[go_sem] theorem Aqx:(fiC r ov f lv gv xv first).getD 10 (.v undef)= .sl 10 (liC r.bo):=rfl
@[go_sem] theorem Aqy:(fiC r ov f lv gv xv first).getD 11 (.v undef)=ov:=rfl
@[go_sem] theorem Aqz:(fiC r ov f lv gv xv first).getD 16 (.v undef)=lv:=rfl
@[go_sem] theorem Aq0:(fiC r ov f lv gv xv first).getD 17 (.v undef)=gv:=rfl
@[go_sem] theorem Aq1:(fiC r ov f lv gv xv first).getD 18 (.v undef)=xv:=rfl
@[go_sem] theorem Aq2:(fiC r ov f lv gv xv first).getD 19 (.v undef)=int first:=rfl
@[go_sem] theorem Aqw(y:AV):Ay (fiC r ov f lv gv xv first) 18 [y]=fiC r ov f lv gv y first:=rfl
end
def EI(β σ:St)(x:Nat)(r:Rl)(ord:List Nat)(f:Fa)(l:List Fa)(first:Int)(got:List Fa)(out:List (List Fa)):Prop:=
 ∃gb lo es,σ x=some (.cells (fiC r (.sl 1 (inC (Id ord))) f (.sl 4 (faC l)) (slv gb got.length got.length) lo first))∧σ gb=some (.rows 4 (faC got) false got.length)∧
  Ow 1 σ lo es∧es.length=out.length∧(∀i (h:i<out.length),∃v,es.getD i []=[v]∧Ow 4 σ v (faC out[i])∧¬Own v gb∧∀x,Own v x→β x=none)∧(∀y o,β y=some o→σ y=some o∧y≠x∧y≠gb∧¬Own lo y)∧lo≠.fsl 1 []
theorem EI.sub{β σ σ':St}{x:Nat}{r:Rl}{ord:List Nat}{f:Fa}{l:List Fa}{first:Int}{got:List Fa}{out:List (List Fa)}(h:EI β σ x r ord f l first got out)(hs:∀y o,σ y=some o→σ' y=some o):EI β σ' x r ord f l first got out:=by
 obtain⟨gb,lo,es,h1,h2,h3,h4,h5,h6,h7⟩:=h;exact⟨gb,lo,es,hs _ _ h1,hs _ _ h2,h3.sub hs,h4,fun i hi=>(by obtain⟨v,k1,k2,k3⟩:=h5 i hi;exact⟨v,k1,k2.sub hs,k3⟩),fun y o hy=>⟨hs _ _ (h6 y o hy).1,(h6 y o hy).2⟩,h7⟩
theorem Akc{ho:Tm}{bo:List Li}{cand:Nat→List Fa}(k:Nat)(o:List Nat)(env:List Bi)(got:List Fa)(i:Nat)(l:List Fa)(hl:l=cand k):(l.take i).flatMap (fun x=>match Bo ho (bo.getD k .zero) x env with
  |some e=>Cf ho bo cand o e (got.set k x)
  |none=>[])++(l.drop i).flatMap (fun x=>match Bo ho (bo.getD k .zero) x env with
  |some e=>Cf ho bo cand o e (got.set k x)
  |none=>[])=Cf ho bo cand (k::o) env got:=by
 rw[←List.flatMap_append,List.take_append_drop,hl];rfl
theorem Akh{l:List Fa}{i:Nat}{y:Fa}:(faC l).set i y.cs=faC (l.set i y):=by simp[faC,List.map_set]
theorem EI.put{β σ:St}{x:Nat}{r:Rl}{ord:List Nat}{f:Fa}{l:List Fa}{first:Int}{got:List Fa}{out:List (List Fa)}{gb:Nat}{lo:AV}{es:List (List AV)}(i:Nat)(y:Fa)(h1:σ x=some (.cells (fiC r (.sl 1 (inC (Id ord))) f (.sl 4 (faC l)) (slv gb got.length got.length) lo first)))(h2:σ gb=some (.rows 4 (faC got) false got.length))
  (h3:Ow 1 σ lo es) (h4:es.length=out.length) (h5:∀i (h:i<out.length),∃v,es.getD i []=[v]∧Ow 4 σ v (faC out[i])∧¬Own v gb∧∀x,Own v x→β x=none) (h6:∀y o,β y=some o→σ y=some o∧y≠x∧y≠gb∧¬Own lo y) (h7:lo≠.fsl 1 []):
  EI β (σ.set gb (.rows 4 (faC (got.set i y)) false got.length)) x r ord f l first (got.set i y) out:=by
 have hxg:x≠gb:=fun e=>by subst e;rw[h1]at h2;cases h2
 have nog:¬Own lo gb:=fun ho=>by
  obtain⟨c,hc⟩:=h3.lat.own_rows ho;rw[h2]at hc;cases hc
 have e:(got.set i y).length=got.length:=by simp
 refine⟨gb,lo,es,by rw[Ag hxg,e];exact h1,by rw[e];exact Ab,h3.keep fun z o hz ho=>?_,h4,fun j hj=>?_,fun z o hz=>?_,h7⟩
 ·rw[Ag (fun e=>by subst e;exact nog ho)];exact hz
 ·obtain⟨v,v1,v2,v3⟩:=h5 j hj
  exact⟨v,v1,v2.keep fun z o hz ho=>by rw[Ag (fun e=>by subst e;exact v3.1 ho)];exact hz,v3⟩
 ·obtain⟨w1,w2,w3,w4⟩:=h6 z o hz
  exact⟨by rw[Ag w3];exact w1,w2,w3,w4⟩
section
variable{β σ:St}{x:Nat}
theorem Akb(r:Rl)(ord:List Nat)(first:Int)(f:Fa)(l:List Fa)(hr:r.S3)(hf:f.Sm)(hl:l.length≤1000000)(hls:∀y∈l,y.Sm)(ho:ord.length≤300)(hon:ord.Nodup)(hob:∀k∈ord,k<r.bo.length):
  ∀(m k:Nat) {β σ:St} {env:List Bi} {got:List Fa} {out:List (List Fa)},k+m=ord.length→got.length=r.bo.length→env.length≤10+302*k→EI β σ x r ord f l first got out→out.length+(Cf r.ho r.bo (Cr first f l) (ord.drop k) env got).length≤1000000→
  AT Tryz.prog 101 [ptr x,int k,.sl 4 (biC env)] σ fun _ σ'=>∃got',got'.length=got.length∧(∀i,i∉ord.drop k→got'[i]? =got[i]?)∧EI β σ' x r ord f l first got' (out++Cf r.ho r.bo (Cr first f l) (ord.drop k) env got):=by
 intro m
 induction m with
 |zero=>
  intro k β σ env got out hk hg he h hb;have hd:ord.drop k=[]:=List.drop_of_length_le (by omega);rw[hd]at hb⊢;have hb:out.length+1≤1000000:=by simpa[Cf]using hb
  obtain⟨gb,lo,es,h1,h2,h3,h4,h5,h6,h7⟩:=h;refine AT.ob Tryz.func101 rfl ?_;have dd:=decide_eq_true (show(k:Int)=ord.length by omega);simp only[go_sem,h1,H3,dd];refine Ae [.rd 0 false,.rd 1 false,.rd 2 false,.rd 3 false,.rd 4 true,.rd 5 false,.rd 6 false,.rd 7 false,.rd 8 true,.ef 9 [4],.rd 10 false,.ef 11 [],.rd 12 false,.rd 13 false,.ef 14 []] ?_;simp only[go_sem,h1];have hr1:=hr.1;refine(Ady got (by omega) ⟨gb,_,rfl,h2⟩).mono ?_;rintro rv σ1 ⟨k1,k2,k3⟩;simp only[go_sem,k2.sub _ _ h1,k1.lat.cells,k1.lat.one];have h3':=h3.sub k2.sub;refine As (ys:=[[rv]]) (by rfl) (by decide) (by decide) (by decide) (Ow.of_app h3'.lat (by simp) (by simp only[List.length_nil,List.length_cons];omega) fun lo' σ2 g1 g2 g3=>?_);have hx2:=(g2 _ _ (k2.sub _ _ h1) (h3'.lat.not_own (k2.sub _ _ h1)));simp only[go_sem,hx2.1,g1.lat.cells,g1.lat.one];have nog:¬Own lo gb:=fun ho=>by
   obtain⟨c,hc⟩:=h3.lat.own_rows ho;rw[h2]at hc;cases hc
  have hg2:=g2 _ _ (k2.sub _ _ h2) nog;have nrv:∀y,Own rv y→¬Own lo' y:=fun y ho ho'=>by
   obtain⟨c,hc⟩:=g3 y ho';obtain⟨c',hc'⟩:=k1.lat.own_rows ho;by_cases hlo:Own lo y
   ·obtain⟨c'',hc''⟩:=h3'.lat.own_rows hlo
    rw[hc']at hc'';cases hc''
   ·rw[(g2 _ _ hc' hlo).1]at hc;cases hc
  have keep:∀y o,σ1 y=some o→¬Own lo y→y≠x→(σ2.set x (.cells (fiC r (.sl 1 (inC (Id ord))) f (.sl 4 (faC l)) (slv gb got.length got.length) lo' first))) y=some o:=fun y o hy ho hne=>by
   rw[Ag hne];exact(g2 _ _ hy ho).1
  have nlo:∀{v:AV} {es':List (List AV)},LAt 4 σ1 v es'→∀y,Own v y→¬Own lo y∧y≠x:=fun hv y hy=>by
   obtain⟨c,hc⟩:=hv.own_rows hy;refine⟨fun ho=>?_,fun e=>?_⟩
   ·obtain⟨c',hc'⟩:=h3'.lat.own_rows ho
    rw[hc]at hc';cases hc'
   ·subst e
    rw[k2.sub _ _ h1]at hc;cases hc
  refine Ad (r:=.tup []) rfl ⟨got,rfl,fun _ _=>rfl,gb,lo',es++[[rv]],Ab,?_,?_,?_,?_,?_,?_⟩
  ·rw[Ag (fun e=>by subst e;rw[h1]at h2;cases h2)];exact hg2.1
  ·exact g1.keep fun y o hy ho=>by
    rw[Ag (fun e=>by subst e;exact hx2.2 ho)];exact hy
  ·simp[Cf,h4]
  ·intro i hi
   by_cases e:i<out.length
   ·obtain⟨v,v1,v2,v3⟩:=h5 i e
    have v2':=v2.sub k2.sub;refine⟨v,?_,?_,v3⟩
    ·rw[List.getD_eq_getElem?_getD,List.getElem?_append_left (by omega)]
     rw[List.getD_eq_getElem?_getD]at v1;exact v1
    ·rw[List.getElem_append_left e]
     exact v2'.keep fun y o hy ho=>keep y o hy (nlo v2'.lat y ho).1 (nlo v2'.lat y ho).2
   ·have e2:i=out.length:=by simp[Cf]at hi;omega
    subst e2;refine⟨rv,?_,?_,fun ho=>?_,fun y hy=>?_⟩
    ·rw[List.getD_eq_getElem?_getD,List.getElem?_append_right (by omega),h4];simp
    ·rw[List.getElem_append_right (by omega)]
     simp only[Cf,Nat.sub_self,List.getElem_cons_zero];exact k1.keep fun y o hy ho=>keep y o hy (nlo k1.lat y ho).1 (nlo k1.lat y ho).2
    ·rw[k3 _ ho]at h2;cases h2
    ·exact Ct (fun y o hy=>(h6 y o hy).1) (k3 _ hy)
  ·intro y o hy
   obtain⟨w1,w2,w3,w4⟩:=h6 y o hy;have:=g2 _ _ (k2.sub _ _ w1) w4;exact⟨keep y o (k2.sub _ _ w1) w4 w2,w2,w3,this.2⟩
  ·rcases g1 with⟨e,_⟩|⟨b,c,rfl,_⟩
   ·simp at e
   ·intro e;cases e
 |succ m ih=>
  intro k β σ env got out hk hg he h hb;obtain⟨gb,lo,es,h1,h2,h3,h4,h5,h6,h7⟩:=h;have h:EI β σ x r ord f l first got out:=⟨gb,lo,es,h1,h2,h3,h4,h5,h6,h7⟩;refine AT.ob Tryz.func101 rfl ?_;have dd:=decide_eq_false (show¬(k:Int)=ord.length by omega);have hko:k<ord.length:=by omega
  obtain⟨at',hat⟩:∃a,a=ord[k]:=⟨_,rfl⟩;have hkb:at'<r.bo.length:=by rw[hat];exact hob _ (List.getElem_mem hko)
  have hlk:=hr.2 _ (List.getElem_mem hkb);have ek:(inC (Id ord)).getD k []=[int (at':Nat)]:=by
   rw[Vl (by rw[H3];exact hko),hat];simp[Id]
  have ed:ord.drop k=at'::ord.drop (k+1):=by rw[hat];exact List.drop_eq_getElem_cons hko
  obtain⟨cd,hcd⟩:∃cd,cd=Cr first f l at':=⟨_,rfl⟩;have hcl:cd.length≤1000000:=by
   rw[hcd];unfold Cr;split
   ·simp
   ·exact hl
  have hcs:∀y∈cd,y.Sm:=by
   rw[hcd];unfold Cr;split
   ·intro y hy;rw[List.mem_singleton.1 hy];exact hf
   ·exact hls
  simp only[go_sem,h1,H3,dd,ek];refine⟨by omega,?_⟩;refine Co (fun fr σ'=>∃lc,(lc= .sl 4 (faC cd)∨lc= .fsl 4 (faC cd))∧σ'=σ∧fr 0=ptr x∧fr 1=int k∧fr 2= .sl 4 (biC env)∧fr 6=int at'∧fr 7=lc) (fun h0=>?_) (fun h0=>?_) ?_
  ·have e:cd=[f]:=by rw[hcd];unfold Cr;rw[if_pos h0]
   simp only[go_sem,h1];refine⟨.fsl 4 (faC cd),.inr rfl,?_⟩;rw[e]
   try (and_intros<;>first|assumption|rfl|omega)
  ·have e:cd=l:=by rw[hcd];unfold Cr;rw[if_neg h0]
   simp only[go_sem];refine⟨.sl 4 (faC cd),.inl rfl,?_⟩;rw[e]
   try (and_intros<;>first|assumption|rfl|omega)
  rintro fr σ' ⟨lc,hlc,rfl,f0,f1,f2,f6,f7⟩;have hR:∀σ'',Rd 4 σ'' lc (faC cd):=fun σ''=>by
   rcases hlc with rfl|rfl
   ·exact .sl
   ·exact .of .full
  simp only[go_sem,Aa,f7,(hR σ').len,Am];rw[ed]at hb⊢;have hge:=fun i=>Akc (ho:=r.ho) (bo:=r.bo) (cand:=Cr first f l) at' (ord.drop (k+1)) env got i cd hcd;obtain⟨G,hG⟩:∃G:Fa→List (List Fa),G=fun x=>match Bo r.ho (r.bo.getD at' .zero) x env with
   |some e=>Cf r.ho r.bo (Cr first f l) (ord.drop (k+1)) e (got.set at' x)
   |none=>[]:=⟨_,rfl⟩
  simp only[←hG]at hge;have hat2:at'∉ord.drop (k+1):=by
   have:=hon.sublist (List.drop_sublist k ord);rw[ed]at this;exact(List.nodup_cons.1 this).1
  refine⟨fun mm fr σ''=>∃(i:Nat) (got':List Fa),mm=cd.length-i∧i≤cd.length∧got'.length=got.length∧(∀j,j∉at'::ord.drop (k+1)→got'[j]? =got[j]?)∧EI β σ'' x r ord f l first got' (out++(cd.take i).flatMap G)∧fr 0=ptr x∧fr 1=int k∧fr 2= .sl 4 (biC env)∧fr 6=int at'∧fr 55=lc∧fr 56=int cd.length∧fr 57=int i,⟨_,0,got,rfl,by omega,rfl,fun _ _=>rfl,by simpa using h,f0,f1,f2,f6,rfl,rfl,rfl⟩,?_⟩;clear f0 f1 f2 f6 f7 fr h h1 h2 h3 h4 h5 h6 h7 gb lo es;rintro mm fr σ1 ⟨i,got',rfl,hi,hg',hgo,hE,f0,f1,f2,f6,f55,f56,f57⟩;simp only[go_sem,f56,f57];refine aIf_by (fun hlt=>?_) (fun hlt=>?_)
  ·have hic:i<cd.length:=by omega
   obtain⟨gb,lo,es,h1,h2,h3,h4,h5,h6,h7⟩:=hE;have hE:EI β σ1 x r ord f l first got' (out++(cd.take i).flatMap G):=⟨gb,lo,es,h1,h2,h3,h4,h5,h6,h7⟩;simp only[go_sem,Aa,f55,f57];refine(hR σ1).elem (by omega) (by rw[Am];omega) fun e he=>?_;simp only[go_sem,Aa];refine he.load (by decide) (by rw[Int.toNat_natCast,Au hic];exact Nat.le_refl 4) ?_;simp only[go_sem,Aa,Au hic];refine Ctx.nil.alloc fun t9 σ2 c1=>?_;obtain⟨σ3,e3,c2⟩:=c1.abs 0 rfl (.cells cd[i].cs);have hx3:=c2.sub _ _ h1;simp only[go_sem,Aa,c1.g0,e3];refine Ae [.rd 0 false,.rd 1 false,.rd 2 false,.rd 3 false,.rd 4 true,.rd 5 false,.rd 6 false,.rd 7 false,.rd 8 false,.rd 9 true,.rd 10 false,.rd 11 false,.rd 12 true,.rd 13 true,.rd 14 false,.ef 15 [],.rd 16 false,.rd 17 false,.rd 18 false,.rd 19 false,.rd 20 false] ?_;simp only[go_sem,Aa,f0,f2,f6,hx3,c2.g0,Et hkb];refine⟨by omega,(Ahd r.ho r.bo[at'] cd[i] env (by omega) (by omega)).mono ?_⟩;rintro _ σ3 ⟨rfl,rfl⟩;have hgi:G cd[i]=match Bo r.ho r.bo[at'] cd[i] env with
    |some e=>Cf r.ho r.bo (Cr first f l) (ord.drop (k+1)) e (got.set at' cd[i])
    |none=>[]:=by rw[hG];simp only;rw[Ahb hkb]
   have htk:(cd.take (i+1)).flatMap G=(cd.take i).flatMap G++G cd[i]:=by
    rw[List.take_add_one,List.getElem?_eq_getElem hic,List.flatMap_append];simp
   cases hv:Bo r.ho r.bo[at'] cd[i] env with
   |none=>
    rw[hv]at hgi;simp only at hgi;simp only[go_sem,Aa,f0,f1,f2,f6,f55,f56,f57,Ai (show i<9223372036854775807 by omega)];refine⟨cd.length-(i+1),by omega,i+1,got',?_⟩;have hE':EI β σ3 x r ord f l first got' (out++(cd.take (i+1)).flatMap G):=by
     rw[htk,hgi,List.append_nil];exact hE.sub c2.sub
    (and_intros<;>first|assumption|rfl|omega)
   |some e2=>
    rw[hv]at hgi;simp only at hgi;have hel:=Qs hv;have hg3:=c2.sub _ _ h2;simp only[go_sem,Aa];refine Ae [.rd 0 false,.rd 1 false,.rd 2 false,.rd 3 true,.rd 4 false,.rd 5 true,.rd 6 false,.ef 7 []] ?_;have hag:at'<got'.length:=by omega
    have hae:=Fa.app cd[i] got'[at'];simp only[go_sem,Aa,f0,f1,f6,hx3,c2.g0,hg3,Ai (show k<9223372036854775807 by omega),Au hag,Akh];refine⟨by omega,hag,?_⟩;have hE3:=(EI.put at' cd[i] hx3 hg3 (h3.sub c2.sub) h4 (fun j hj=>(by obtain⟨v,k1,k2,k3⟩:=h5 j hj;exact⟨v,k1,k2.sub c2.sub,k3⟩)) (fun y o hy=>⟨c2.sub _ _ (h6 y o hy).1,(h6 y o hy).2⟩) h7);have hgeq:Cf r.ho r.bo (Cr first f l) (ord.drop (k+1)) e2 (got'.set at' cd[i])=Cf r.ho r.bo (Cr first f l) (ord.drop (k+1)) e2 (got.set at' cd[i]):=by
     refine Xw _ _ _ _ (by simp[hg']) fun j hj=>?_;by_cases e:at'=j
     ·subst e
      simp[List.getElem?_set,hag,hg',show at'<got.length by omega]
     ·rw[List.getElem?_set_ne e,List.getElem?_set_ne e]
      exact hgo j (by simp[hj,Ne.symm e])
    have hlen:((out++(cd.take i).flatMap G).length+(Cf r.ho r.bo (Cr first f l) (ord.drop (k+1)) e2 (got'.set at' cd[i])).length)≤1000000:=by
     rw[hgeq,←hgi];have h1:=congrArg List.length (hge (i+1));rw[htk]at h1;simp only[List.length_append]at h1⊢;omega
    refine(ih (k+1) (by omega) (by simp[hg',hg]) (by omega) hE3 hlen).mono ?_;rintro _ σ5 ⟨got2,q1,q2,q3⟩;simp only[go_sem,Aa,f0,f1,f2,f6,f55,f56,f57,Ai (show i<9223372036854775807 by omega)];refine⟨cd.length-(i+1),by omega,i+1,got2,?_⟩;have z1:got2.length=got.length:=by rw[q1];simp[hg']
    have z2:∀j,j∉at'::ord.drop (k+1)→got2[j]? =got[j]? :=fun j hj=>by
     rw[List.mem_cons,not_or]at hj;rw[q2 j hj.2,List.getElem?_set_ne (Ne.symm hj.1)];exact hgo j (by simp[hj])
    have z3:EI β σ5 x r ord f l first got2 (out++(cd.take (i+1)).flatMap G):=by
     rw[htk,hgi,←hgeq,←List.append_assoc];exact q3
    (and_intros<;>first|assumption|rfl|omega)
  ·simp only[go_sem,Aa]
   rw[List.take_of_length_le (by omega)]at hE;refine Ad (r:=.tup []) rfl ⟨got',hg',hgo,?_⟩;have:=hge cd.length;rw[List.take_of_length_le (by omega),List.drop_of_length_le (by omega)]at this;rw[←this];simpa using hE
end
end Go.Proofs.YtmifmncabejffaaGreat
namespace Go.Proofs.YtmifmncabejffaaGreat.L
open Go Go.Av Go.Sort
section
variable{α:Type}{en:α→List AV}(hl:∀x,(en x).length=1)(ho:∀x,(en x).all AV.one=true)(hce:∀x,((en x).getD 0 (.v undef)).cells=en x){e:α→α→Bool}{g:Nat}{β:St}(hC:∀σ',(∀x o,β x=some o→σ' x=some o)→∀x y,AT Tryz.prog g [(en x).getD 0 (.v undef),(en y).getD 0 (.v undef)] σ' fun r σ''=>r=boo (e x y)∧σ''=σ')
variable{b cap:Nat}(hn:β b=none)
include hl ho hce hC hn
theorem compact_at{σ:St}{l:List α}(hb:σ b=some (.rows 1 (l.map en) false cap))(hs:∀x o,β x=some o→σ x=some o)(hcap:l.length≤cap)(hsz:l.length≤1000000000000):AT Tryz.prog 104 [slv b l.length cap,fnv g] σ fun r σ'=>r=slv b (Dd e l).length cap∧σ'=σ.set b (.rows 1 ((Dd e l).map en) false cap):=by
 refine AT.ob Tryz.func104 rfl ?_;have e4:∀x,(en x).take 1=en x:=fun x=>List.take_of_length_le (by rw[hl];omega);have e5:∀x y,en x++List.drop 1 (en y)=en x:=fun x y=>by rw[List.drop_eq_nil_of_le (by rw[hl];omega),List.append_nil]
 have eg:∀j (hj:j<l.length),(l.map en).getD j []=en l[j]:=fun j hj=>by simp[List.getD_eq_getElem?_getD,hj]
 have same:∀{fr:Fr} {m:Nat},m=l.length→Dd e l=l→Bb Tryz.prog fr σ (Tryz.f104).results.toList=some (slv b l.length cap)→D3 Tryz.prog (fun r σ'=>r=slv b (Dd e l).length cap∧σ'=σ.set b (.rows 1 ((Dd e l).map en) false cap)) (Tryz.f104).results.toList fr σ:=fun _ he hr=>
  Ad hr ⟨by rw[he],by rw[he];exact(Bp hb).symm⟩
 simp only[go_sem];refine aIf_by (fun h2=>?_) (fun h2=>?_)
 ·simp only[go_sem]
  exact same rfl (Re (by omega)) rfl
 ·simp only[go_sem,Aa]
  refine⟨fun m fr σ'=>∃(k:Nat) (hk:0<k) (hkn:k≤l.length),m=l.length-k∧σ'=σ∧Dd e l=l.take k++Fw e (l[k-1]'(by omega)) (l.drop k)∧fr 0=slv b l.length cap∧fr 1=fnv g∧fr 5=int k,⟨_,1,by omega,by omega,rfl,rfl,Rf (by omega),rfl,rfl,rfl⟩,?_⟩;rintro m fr σ ⟨k,hk,hkn,rfl,rfl,hI,f0,f1,f5⟩;simp only[go_sem,f0,f5];refine aIf_by (fun hlt=>?_) (fun hlt=>?_)
  ·have hkl:k<l.length:=by omega
   have w1:IntKind.i64.wrap ((k:Int)-1)=((k-1:Nat):Int):=by rw[Ah (by omega)];omega
   have q1:=eg k hkl;have q2:=eg (k-1) (by omega);have ed:l.drop k=l[k]::l.drop (k+1):=List.drop_eq_getElem_cons hkl;rw[ed]at hI;simp only[go_sem,Aa];refine Ae [.rd 0 false,.rd 1 false,.rd 2 false,.rd 3 false,.rd 4 true,.rd 5 false,.rd 6 false,.rd 7 false,.rd 8 false,.rd 9 true,.ef 10 []] ?_;simp only[go_sem,Aa,f0,f1,f5,w1,hb,q1,q2,e4,hl,List.length_map];refine⟨by omega,by omega,by omega,by omega,(hC _ hs _ _).mono ?_⟩;rintro _ σ ⟨rfl,rfl⟩;simp only[go_sem,Aa];refine aIf_bool (fun h0=>?_) (fun h0=>?_)
   ·have hI:Dd e l=l.take k++Fw e l[k] (l.drop (k+1)):=by rw[hI,D6,if_pos h0]
    simp only[go_sem,Aa,f0,f5];refine Bj (p:=k) (by omega) (by omega) hcap (by omega) ?_;simp only[go_sem,Aa]
    refine⟨fun m fr σ'=>∃(w j:Nat) (es:List (List AV)) (hj:k<j) (hjn:j≤l.length) (res:List α),m=l.length-j∧w<j∧es.length=l.length∧(∀i,i<l.length→(es.getD i []).length=1)∧σ'=σ.set b (.rows 1 es false cap)∧res.length=w∧es.take w=res.map en∧es.drop (j-1)=(l.drop (j-1)).map en∧Dd e l=res++Fw e (l[j-1]'(by omega)) (l.drop j)∧fr 0=slv b l.length cap∧fr 1=fnv g∧fr 5=int w∧fr 6= .v (.slice (some ⟨b,k,none⟩) (l.length-k) (cap-k))∧fr 7=int (j-k:Nat),
     ⟨_,k,k+1,l.map en,by omega,by omega,l.take k,rfl,by omega,by simp,(fun i hi=>by rw[eg i hi,hl]),(Bp hb).symm,by simp;omega,by simp[List.map_take],by simp[List.map_drop],hI,f0,f1,f5,rfl,by rw[show k+1-k=1 by omega];rfl⟩,?_⟩
    clear hI f0 f1 f5 h0 hlt w1 q1 q2 ed fr;rintro m fr σ' ⟨w,j,es,hj,hjn,res,rfl,hwj,hes,he1,rfl,hres,ht,hd,hI,f0,f1,f5,f6,f7⟩;have hge:∀i,j-1≤i→∀hi:i<l.length,es.getD i []=en l[i]:=fun i h1 h2=>by
     have:=congrArg (fun x=>x.getD (i-(j-1)) []) hd;simp only[List.getD_eq_getElem?_getD,List.getElem?_drop,List.getElem?_map]at this;rw[show j-1+(i-(j-1))=i by omega]at this;simpa[List.getD_eq_getElem?_getD,h2]using this
    simp only[go_sem,f6,f7];refine aIf_by (fun hlt=>?_) (fun hlt=>?_)
    ·have hjl:j<l.length:=by omega
     have w2:IntKind.i64.wrap (((j-k:Nat):Int)-1)=((j-k-1:Nat):Int):=by rw[Ah (by omega)];omega
     have p1:=hge j (by omega) hjl;have p2:=hge (j-1) (by omega) (by omega);have ed:l.drop j=l[j]::l.drop (j+1):=List.drop_eq_getElem_cons hjl;have a1:k+(j-k)=j:=by omega
     have a2:k+(j-k-1)=j-1:=by omega
     rw[ed]at hI;simp only[go_sem,Aa];refine Ae [.rd 0 false,.rd 1 false,.rd 2 false,.rd 3 false,.rd 4 true,.rd 5 false,.rd 6 false,.rd 7 false,.rd 8 false,.rd 9 true,.ef 10 [],.rd 11 false] ?_;simp only[go_sem,Aa,f1,f6,f7,w2];refine Hw (l:=k) (by omega) (by decide) (by omega) (by omega) ?_;simp only[go_sem,Aa,a1,Ab,p1,e4,hl,hes,f6,f7,w2];refine⟨by omega,Hw (l:=k) (by omega) (by decide) (by omega) (by omega) ?_⟩;simp only[go_sem,Aa,a2,Ab,p2,e4,hl,hes,f1];refine⟨by omega,(hC _ (Ap hn hs) _ _).mono ?_⟩;rintro _ σ1 ⟨rfl,rfl⟩;simp only[go_sem,Aa];refine aIf_bool (fun h0=>?_) (fun h0=>?_)
     ·have hI:Dd e l=res++Fw e l[j] (l.drop (j+1)):=by rw[hI,D6,if_pos h0]
      have n1:IntKind.i64.wrap (((j-k:Nat):Int)+1)=((j+1-k:Nat):Int):=by rw[Ah (by omega)];omega
      simp only[go_sem,Aa,f0,f1,f5,f6,f7,n1];refine⟨l.length-(j+1),by omega,w,j+1,es,by omega,by omega,res,rfl,by omega,hes,he1,rfl,hres,ht,?_,hI,rfl,rfl⟩;rw[Nat.add_sub_cancel,show j=j-1+1 by omega,←List.drop_drop,hd,←List.map_drop,List.drop_drop]
     ·have hI:Dd e l=(res++[l[j]])++Fw e l[j] (l.drop (j+1)):=by rw[hI,D6,if_neg (by rw[h0];decide),List.append_assoc];rfl
      have n1:IntKind.i64.wrap (((j-k:Nat):Int)+1)=((j+1-k:Nat):Int):=by rw[Ah (by omega)];omega
      have dz:List.drop 1 (es.getD w [])=[]:=List.drop_eq_nil_of_le (by rw[he1 w (by omega)];omega);simp only[go_sem,Aa,f0,f1,f5,f6,f7,n1];refine Hw (l:=k) (by omega) (by decide) (by omega) (by omega) ?_;simp only[go_sem,Aa,a1,Ab,p1,e4,hl,hes,f0,f1,f5,f6,f7,n1,dz,List.append_nil,hce,ho,Cw,Ai (show w<9223372036854775807 by omega)];refine⟨by omega,by omega,by omega,l.length-(j+1),by omega,w+1,j+1,es.set w (en l[j]),by omega,by omega,res++[l[j]],rfl,by omega,by simp;omega,fun i hi=>?_,rfl,by simp;omega,?_,?_,hI,rfl,rfl⟩
      ·simp only[List.getD_eq_getElem?_getD,List.getElem?_set]
       split
       ·rw[if_pos (by omega)];exact hl _
       ·have:=he1 i hi
        rwa[List.getD_eq_getElem?_getD]at this
      ·rw[List.take_add_one,List.take_set_of_le (by omega),ht]
       simp[show w<es.length by omega]
      ·rw[Nat.add_sub_cancel,List.drop_set_of_lt (by omega),show j=j-1+1 by omega,←List.drop_drop,hd,←List.map_drop,List.drop_drop]
    ·rw[List.drop_of_length_le (by omega)]at hI
     have hI:Dd e l=res:=by rw[hI];simp[Fw]
     simp only[go_sem,Aa,f0,f5];refine Bj (p:=w) (by omega) (by omega) hcap (by omega) ?_;simp only[go_sem,Aa];refine Ix (l:=w) (by omega) Ab (by decide) (by omega) (by omega) (by decide) ?_;simp only[go_sem,Aa,Cw,f0,f5];refine Jy (by omega) hcap ?_;simp only[go_sem,Aa];have hw:(Dd e l).length=w:=by rw[hI];exact hres
     refine Af (r:=slv b w cap) rfl _ _ (Jh (m:=w) _ Ab) ⟨by rw[hw],?_⟩;rw[Cw,List.append_assoc,List.take_append_of_le_length (by simp;omega),List.take_take,Nat.min_self,ht,hI]
   ·have hI:Dd e l=l.take (k+1)++Fw e l[k] (l.drop (k+1)):=by
     have e1:l.take (k+1)=l.take k++[l[k]]:=by rw[List.take_add_one,List.getElem?_eq_getElem hkl];rfl
     rw[hI,e1,D6,if_neg (by rw[h0];decide),List.append_assoc];rfl
    simp only[go_sem,Aa,f0,f1,f5,Ai (show k<9223372036854775807 by omega)];exact⟨l.length-(k+1),by omega,k+1,by omega,by omega,rfl,hI,rfl⟩
  ·simp only[go_sem,Aa,f0]
   refine same rfl ?_ rfl;rw[hI,List.drop_of_length_le (by omega),List.take_of_length_le (by omega)];simp[Fw]
end
section
variable{α:Type}[Inhabited α]{en:α→List AV}(hl:∀x,(en x).length=1)(ho:∀x,(en x).all AV.one=true)(hce:∀x,((en x).getD 0 (.v undef)).cells=en x){cf:α→α→Int}{g:Nat}{β:St}(hC:∀σ',(∀x o,β x=some o→σ' x=some o)→∀x y,AT Tryz.prog g [(en x).getD 0 (.v undef),(en y).getD 0 (.v undef)] σ' fun r σ''=>r=int (cf x y)∧σ''=σ')
variable{σ:St}{b cap:Nat}{d:Array α}(hb:σ b=some (.rows 1 (rw' en d) false cap))(hn:β b=none)(hs:∀x o,β x=some o→σ x=some o){n:Nat}(hd:d.size=n)(hsz:n≤1000000000000)
include hl ho hce hC hb hn hs hd hsz
theorem Hx{a e:Nat}(he:e≤n)(ha:a≤n):AT Tryz.prog 199 [slv b n cap,int a,int e,fnv g] σ fun _ σ'=>σ'=σ.set b (.rows 1 (rw' en (insertionSort (ltc cf) d a e)) false cap):=by
 refine AT.ob Tryz.func199 rfl ?_;have sub:∀d',∀x o,β x=some o→(σ.set b (.rows 1 (rw' en d') false cap)) x=some o:=fun d' x o hx=>by
  have:x≠b:=fun e=>by subst e;rw[hn]at hx;cases hx
  rw[Ag this];exact hs x o hx
 have e4:∀x,(en x).take 1=en x:=fun x=>List.take_of_length_le (by rw[hl];omega);have e5:∀x y,en x++List.drop 1 (en y)=en x:=fun x y=>by rw[List.drop_eq_nil_of_le (by rw[hl];omega),List.append_nil]
 simp only[go_sem,Aa,Ai (show a<9223372036854775807 by omega)];refine⟨fun m fr σ'=>∃(i:Nat) (d':Array α),m=e-i∧a<i∧d'.size=n∧insOuter (ltc cf) a e i d'=insertionSort (ltc cf) d a e∧σ'=σ.set b (.rows 1 (rw' en d') false cap)∧fr 0=slv b n cap∧fr 1=int a∧fr 2=int e∧fr 3=fnv g∧fr 8=int i,⟨_,a+1,d,rfl,by omega,hd,rfl,(Bp hb).symm,rfl,rfl,rfl,rfl,rfl⟩,?_⟩;rintro m fr σ' ⟨i,d',rfl,hi,hd',hI,rfl,f0,f1,f2,f3,f8⟩;simp only[go_sem,f2,f8];refine aIf_by (fun hlt=>?_) (fun hlt=>?_)
 ·simp only[go_sem,Aa,f8]
  unfold insOuter at hI;rw[if_pos (by omega)]at hI;refine⟨fun m fr σ'=>∃(j:Nat) (d'':Array α),m=j+1∧j≤i∧d''.size=n∧insInner (ltc cf) a j d''=insInner (ltc cf) a i d'∧σ'=σ.set b (.rows 1 (rw' en d'') false cap)∧fr 0=slv b n cap∧fr 1=int a∧fr 2=int e∧fr 3=fnv g∧fr 8=int i∧fr 9=int j,⟨_,i,d',rfl,by omega,hd',rfl,rfl,f0,f1,f2,f3,f8,rfl⟩,?_⟩;clear f0 f1 f2 f3 f8 fr;rintro m fr σ' ⟨j,dd,rfl,hj,hdd,hJ,rfl,f0,f1,f2,f3,f8,f9⟩;have out:insInner (ltc cf) a j dd=dd→insOuter (ltc cf) a e (i+1) dd=insertionSort (ltc cf) d a e:=fun h=>by rw[←hI,←hJ,h]
  simp only[go_sem];refine Ae [.rd 0 false,.rd 1 false,.rd 2 false,.rd 3 false,.rd 4 false,.rd 5 false,.rd 6 false,.rd 7 false,.rd 8 true,.rd 9 false,.rd 10 false,.rd 11 false,.rd 12 false,.rd 13 true,.ef 14 [],.rd 15 false,.rd 16 false] ?_;by_cases g1:(a:Int)<j
  ·obtain⟨k,rfl⟩:∃k,j=k+1:=⟨j-1,by omega⟩
   have ek:IntKind.i64.wrap (((k+1:Nat):Int)-1)=(k:Int):=by rw[Ah (by omega)];omega
   have q1:=Aj (en:=en) (d:=dd) (j:=k+1) (by omega);have q2:=Aj (en:=en) (d:=dd) (j:=k) (by omega);simp only[go_sem,f0,f1,f3,f9,decide_eq_true g1,ek,Ab,q1,q2,e4];refine⟨by omega,by omega,by omega,by omega,(hC _ (sub dd) _ _).mono ?_⟩;rintro _ σ1 ⟨rfl,rfl⟩;have hu:insInner (ltc cf) a (k+1) dd=if ltc cf dd[k+1]! dd[k]! =true then insInner (ltc cf) a k (swp dd (k+1) k)else dd:=by
    rw[insInner];simp only[gt_iff_lt,show a<k+1 by omega,decide_true,Bool.true_and]
   simp only[go_sem];refine aIf_by (fun g2=>?_) (fun g2=>?_)
   ·rw[if_pos (by unfold ltc;exact decide_eq_true g2)]at hu
    simp only[go_sem,Aa];refine Ae [.rd 0 false,.rd 1 false,.rd 2 false,.rd 3 false,.rd 4 false,.rd 5 false,.rd 6 false,.rd 7 false,.rd 8 false,.rd 9 true,.rd 10 false,.rd 11 false,.rd 12 false,.rd 13 true,.rd 14 false,.ef 15 [],.rd 16 false,.ef 17 []] ?_;have q3:=Aj (en:=en) (d:=dd.setIfInBounds (k+1) dd[k]!) (j:=k) (by rw[Array.size_setIfInBounds];omega);simp only[go_sem,f0,f1,f3,f9,ek,Ab,q1,q2,e4,e5,hl,ho,hce,Bz,q3,Array.size_setIfInBounds];refine⟨by omega,by omega,by omega,by omega,by omega,by omega,by omega,by omega,k+1,by omega,k,swp dd (k+1) k,rfl,by omega,by rw[A8];exact hdd,by rw[←hu,hJ],rfl,f2,f8,rfl⟩
   ·rw[if_neg (by unfold ltc;rw[decide_eq_false g2];decide)]at hu
    have out:=out hu;simp only[go_sem,f0,f1,f2,f3,f8,Ai (show i<9223372036854775807 by omega)];exact⟨e-(i+1),by omega,i+1,dd,rfl,by omega,hdd,out,rfl,rfl⟩
  ·have out:=out (by
    cases j with
    |zero=>rfl
    |succ k=>rw[insInner];simp only[gt_iff_lt,show¬a<k+1 by omega,decide_false,Bool.false_and,Bool.false_eq_true,if_false])
   simp only[go_sem,f0,f1,f2,f3,f8,f9,decide_eq_false g1,Ai (show i<9223372036854775807 by omega)];exact⟨e-(i+1),by omega,i+1,dd,rfl,by omega,hdd,out,rfl,rfl⟩
 ·simp only[go_sem,Aa]
  unfold insOuter at hI;rw[if_neg (by omega)]at hI;rw[hI];exact Ad (r:=.tup []) rfl rfl
end
section
variable{α:Type}[Inhabited α]{en:α→List AV}(hl:∀x,(en x).length=1)(ho:∀x,(en x).all AV.one=true)(hce:∀x,((en x).getD 0 (.v undef)).cells=en x){cf:α→α→Int}{g:Nat}{β:St}(hC:∀σ',(∀x o,β x=some o→σ' x=some o)→∀x y,AT Tryz.prog g [(en x).getD 0 (.v undef),(en y).getD 0 (.v undef)] σ' fun r σ''=>r=int (cf x y)∧σ''=σ')
variable{σ:St}{b cap:Nat}{d:Array α}(hb:σ b=some (.rows 1 (rw' en d) false cap))(hn:β b=none)(hs:∀x o,β x=some o→σ x=some o){n:Nat}(hd:d.size=n)(hsz:n≤1000000000000)
include hl ho hce hC hb hn hs hd hsz
theorem Oh{lo hi f:Nat}(hf:f+hi≤n)(hlo:lo≤n):AT Tryz.prog 228 [slv b n cap,int lo,int hi,int f,fnv g] σ fun _ σ'=>σ'=σ.set b (.rows 1 (rw' en (siftDown (ltc cf) hi f lo d)) false cap):=by
 refine AT.ob Tryz.func228 rfl ?_;simp only[go_sem,Aa];refine⟨fun m fr σ'=>∃(r:Nat) (d':Array α),m=n-r∧r≤n∧d'.size=n∧siftDown (ltc cf) hi f r d'=siftDown (ltc cf) hi f lo d∧σ'=σ.set b (.rows 1 (rw' en d') false cap)∧fr 0=slv b n cap∧fr 2=int hi∧fr 3=int f∧fr 4=fnv g∧fr 10=int r,⟨_,lo,d,rfl,hlo,hd,rfl,(Bp hb).symm,rfl,rfl,rfl,rfl,rfl⟩,?_⟩;rintro m fr σ' ⟨r,dd,rfl,hr,hdd,hI,rfl,f0,f2,f3,f4,f10⟩;have w1:IntKind.i64.wrap (IntKind.i64.wrap (2*(r:Int))+1)=((2*r+1:Nat):Int):=by rw[Ah (x:=2*(r:Int)) (by omega),Ah (by omega)];omega
 simp only[go_sem,Aa,f0,f2,f3,f4,f10,w1];refine aIf_by (fun hge=>?_) (fun hge=>?_)
 ·simp only[go_sem,Aa]
  rw[←hI,Hn (by omega)];exact Ad (r:=.tup []) rfl rfl
 ·have hlt:2*r+1<hi:=by omega
  rw[Lp hlt]at hI;have hch:=U6 (lt:=ltc cf) (f:=f) (d:=dd) hlt;simp only[go_sem];refine Ae [.rd 0 false,.rd 1 false,.rd 2 false,.rd 3 false,.rd 4 false,.rd 5 false,.rd 6 false,.rd 7 false,.rd 8 false,.rd 9 false,.rd 10 false,.rd 11 true,.rd 12 false,.rd 13 false,.rd 14 false,.rd 15 false,.rd 16 false,.rd 17 false,.rd 18 true,.ef 19 [],.rd 20 false,.rd 21 false] ?_;apply Hg (fun fr σ'=>σ'=σ.set b (.rows 1 (rw' en dd) false cap)∧fr 0=slv b n cap∧fr 2=int hi∧fr 3=int f∧fr 4=fnv g∧fr 10=int r∧fr 11=int (chd (ltc cf) hi f r dd))
  case h1=>
   intro key;have w2:IntKind.i64.wrap (((2*r+1:Nat):Int)+1)=((2*r+2:Nat):Int):=by rw[Ah (by omega)];omega
   by_cases g1:((2*r+2:Nat):Int)<hi
   ·have w3:IntKind.i64.wrap ((f:Int)+((2*r+1:Nat):Int))=((f+(2*r+1):Nat):Int):=by rw[Ah (by omega)];omega
    have w4:IntKind.i64.wrap (((f+(2*r+1):Nat):Int)+1)=((f+(2*r+2):Nat):Int):=by rw[Ah (by omega)];omega
    have q1:=Aj (en:=en) (d:=dd) (j:=f+(2*r+1)) (by omega);have q2:=Aj (en:=en) (d:=dd) (j:=f+(2*r+2)) (by omega);simp only[go_sem,f0,f2,f3,f4,f10,w2,w3,w4,decide_eq_true g1,Ab,q1,q2,Aw hl];refine⟨by omega,by omega,by omega,by omega,(hC _ (Ap hn hs) _ _).mono ?_⟩;rintro _ σ1 ⟨rfl,rfl⟩;simp only[go_sem];refine aIf_by (fun g2=>?_) (fun g2=>?_)
    ·simp only[go_sem,w2]
     refine key _ _ ⟨rfl,f0,f2,f3,f4,f10,?_⟩;unfold chd;rw[if_pos ⟨by omega,decide_eq_true g2⟩];rfl
    ·simp only[go_sem,w2]
     refine key _ _ ⟨rfl,f0,f2,f3,f4,f10,?_⟩;unfold chd;rw[if_neg (fun h=>g2 (of_decide_eq_true h.2))];rfl
   ·simp only[go_sem,f0,f2,f3,f4,f10,w2,decide_eq_false g1]
    refine key _ _ ⟨rfl,f0,f2,f3,f4,f10,?_⟩;unfold chd;rw[if_neg (fun h=>g1 (by omega))];rfl
  case h2=>
   clear f0 f2 f3 f4 f10 fr;generalize chd (ltc cf) hi f r dd=c at*;rintro fr σ1 ⟨rfl,f0,f2,f3,f4,f10,f11⟩;have w5:IntKind.i64.wrap ((f:Int)+(r:Int))=((f+r:Nat):Int):=by rw[Ah (by omega)];omega
   have w6:IntKind.i64.wrap ((f:Int)+(c:Int))=((f+c:Nat):Int):=by rw[Ah (by omega)];omega
   have q1:=Aj (en:=en) (d:=dd) (j:=f+r) (by omega);have q2:=Aj (en:=en) (d:=dd) (j:=f+c) (by omega);refine Ae [.rd 0 false,.rd 1 false,.rd 2 false,.rd 3 false,.rd 4 false,.rd 5 false,.rd 6 true,.rd 7 false,.rd 8 false,.rd 9 false,.rd 10 false,.rd 11 false,.rd 12 true,.ef 13 [],.rd 14 false,.rd 15 false] ?_;simp only[go_sem,f0,f2,f3,f4,f10,f11,w5,w6,Ab,q1,q2,Aw hl];refine⟨by omega,by omega,by omega,by omega,(hC _ (Ap hn hs) _ _).mono ?_⟩;rintro _ σ1 ⟨rfl,rfl⟩;simp only[go_sem];refine aIf_by (fun g2=>?_) (fun g2=>?_)
   ·rw[if_pos (by unfold ltc;exact decide_eq_true g2)]at hI
    simp only[go_sem];refine Ae [.rd 0 false,.rd 1 false,.rd 2 false,.rd 3 false,.rd 4 false,.rd 5 false,.rd 6 false,.rd 7 false,.rd 8 false,.rd 9 false,.rd 10 false,.rd 11 false,.rd 12 false,.rd 13 true,.rd 14 false,.rd 15 false,.rd 16 false,.rd 17 false,.rd 18 false,.rd 19 true,.rd 20 false,.ef 21 [],.rd 22 false,.ef 23 []] ?_;have q3:=Aj (en:=en) (d:=dd.setIfInBounds (f+r) dd[f+c]!) (j:=f+c) (by rw[Array.size_setIfInBounds];omega);simp only[go_sem,f0,f2,f3,f4,f10,f11,w5,w6,Ab,q1,q2,Aw hl,Cc hl,hl,ho,hce,Bz,q3,Array.size_setIfInBounds];refine⟨by omega,by omega,by omega,by omega,by omega,by omega,by omega,by omega,n-c,by omega,c,swp dd (f+r) (f+c),rfl,by omega,by rw[A8];exact hdd,hI,rfl,rfl⟩
   ·rw[if_neg (by unfold ltc;rw[decide_eq_false g2];decide)]at hI
    simp only[go_sem];rw[←hI];exact Ad (r:=.tup []) rfl rfl
omit hl ho hce hC hb hn hs hd hsz in
theorem Gl{lt:α→α→Bool}{hi f:Nat}:∀(m r:Nat) (d:Array α),hi-r≤m→(siftDown lt hi f r d).size=d.size
 |0,r,d,h=>by rw[Hn (by omega)]
 |m+1,r,d,h=>by
  by_cases h1:2*r+1<hi
  ·have hc:=U6 (lt:=lt) (f:=f) (d:=d) h1
   rw[Lp h1];split
   ·rw[Gl m _ _ (by omega),A8]
   ·rfl
  ·rw[Hn h1]
theorem Vk{a e:Nat}(he:e≤n)(ha:a<e):AT Tryz.prog 200 [slv b n cap,int a,int e,fnv g] σ fun _ σ'=>σ'=σ.set b (.rows 1 (rw' en (heapSort (ltc cf) d a e)) false cap):=by
 refine AT.ob Tryz.func200 rfl ?_;have w1:IntKind.i64.wrap ((e:Int)-a)=((e-a:Nat):Int):=by rw[Ah (by omega)];omega
 have w2:IntKind.i64.wrap ((IntKind.i64.wrap (((e-a:Nat):Int)-1)).tdiv 2)=((((e-a-1)/2+1:Nat):Int)-1):=by
  rw[Ah (x:=((e-a:Nat):Int)-1) (by omega),Int.tdiv_eq_ediv_of_nonneg (by omega),Ah (by omega)];omega
 simp only[go_sem,Aa,w1,w2];refine⟨fun m fr σ'=>∃(k:Nat) (d':Array α),m=k+1∧k≤n∧d'.size=n∧heapBuild (ltc cf) (e-a) a k d'=heapBuild (ltc cf) (e-a) a ((e-a-1)/2+1) d∧σ'=σ.set b (.rows 1 (rw' en d') false cap)∧fr 0=slv b n cap∧fr 3=fnv g∧fr 8=int a∧fr 9=int 0∧fr 10=int (e-a:Nat)∧fr 11=int ((k:Int)-1),⟨_,_,d,rfl,by omega,hd,rfl,(Bp hb).symm,rfl,rfl,rfl,rfl,rfl,rfl⟩,?_⟩;rintro m fr σ' ⟨k,dd,rfl,hk,hdd,hI,rfl,f0,f3,f8,f9,f10,f11⟩;simp only[go_sem,f11];refine aIf_by (fun hge=>?_) (fun hge=>?_)
 ·obtain⟨j,rfl⟩:∃j,k=j+1:=⟨k-1,by omega⟩
  have ej:((j+1:Nat):Int)-1=(j:Int):=by omega
  simp only[go_sem,Aa,f0,f3,f8,f10,f11,ej];refine(Oh hl ho hce hC (σ:=σ.set b (.rows 1 (rw' en dd) false cap)) (d:=dd) Ab hn (Ap hn hs) hdd hsz (by omega) (by omega)).mono ?_;rintro _ σ1 rfl;have w3:IntKind.i64.wrap ((j:Int)-1)=(j:Int)-1:=Ah (by omega);simp only[go_sem,f0,f3,f8,f9,f10,f11,ej,w3,hdd];exact⟨j+1,by omega,j,siftDown (ltc cf) (e-a) a j dd,rfl,by omega,by rw[Gl _ _ _ (Nat.le_refl _)];exact hdd,hI,rfl,rfl⟩
 ·have hk0:k=0:=by omega
  subst hk0;have w4:IntKind.i64.wrap (((e-a:Nat):Int)-1)=((e-a:Nat):Int)-1:=Ah (by omega);simp only[go_sem,Aa,f0,f3,f8,f9,f10,f11,w4];have hI:dd=heapBuild (ltc cf) (e-a) a ((e-a-1)/2+1) d:=hI;have hfin:heapSort (ltc cf) d a e=heapPop (ltc cf) a (e-a) dd:=by rw[hI];rfl
  refine⟨fun m fr σ'=>∃(k:Nat) (d':Array α),m=k+1∧k≤e-a∧d'.size=n∧heapPop (ltc cf) a k d'=heapPop (ltc cf) a (e-a) dd∧σ'=σ.set b (.rows 1 (rw' en d') false cap)∧fr 0=slv b n cap∧fr 3=fnv g∧fr 8=int a∧fr 9=int 0∧fr 12=int ((k:Int)-1),⟨_,_,dd,rfl,by omega,hdd,rfl,rfl,f0,f3,f8,f9,rfl⟩,?_⟩;clear f0 f3 f8 f9 f10 f11 fr hI;rintro m fr σ' ⟨k,de,rfl,hk,hde,hI,rfl,f0,f3,f8,f9,f12⟩;simp only[go_sem,f12];refine aIf_by (fun hge=>?_) (fun hge=>?_)
  ·obtain⟨j,rfl⟩:∃j,k=j+1:=⟨k-1,by omega⟩
   have ej:((j+1:Nat):Int)-1=(j:Int):=by omega
   have w5:IntKind.i64.wrap ((a:Int)+(j:Int))=((a+j:Nat):Int):=by rw[Ah (by omega)];omega
   have q1:=Aj (en:=en) (d:=de) (j:=a) (by omega);have q2:=Aj (en:=en) (d:=de) (j:=a+j) (by omega);have q3:=Aj (en:=en) (d:=de.setIfInBounds a de[a+j]!) (j:=a+j) (by rw[Array.size_setIfInBounds];omega);simp only[go_sem,Aa,f0,f3,f8,f9,f12,ej];refine Ae [.rd 0 false,.rd 1 false,.rd 2 false,.rd 3 false,.rd 4 false,.rd 5 false,.rd 6 false,.rd 7 false,.rd 8 false,.rd 9 false,.rd 10 false,.rd 11 true,.rd 12 false,.rd 13 false,.rd 14 false,.rd 15 true,.rd 16 false,.ef 17 [],.rd 18 false,.ef 19 []] ?_;simp only[go_sem,f0,f3,f8,f9,f12,ej,w5,Ab,q1,q2,Aw hl,Cc hl,hl,ho,hce,Bz,q3,Array.size_setIfInBounds];refine⟨by omega,by omega,by omega,by omega,by omega,by omega,by omega,by omega,?_⟩;have hsw:(swp de a (a+j)).size=n:=by rw[A8];exact hde
   refine(Oh hl ho hce hC (lo:=0) (hi:=j) (f:=a) (σ:=σ.set b (.rows 1 (rw' en (swp de a (a+j))) false cap)) (d:=swp de a (a+j)) Ab hn (Ap hn hs) hsw hsz (by omega) (by omega)).mono ?_;rintro _ σ1 rfl;have w3:IntKind.i64.wrap ((j:Int)-1)=(j:Int)-1:=Ah (by omega);simp only[go_sem,f0,f3,f8,f9,f12,ej,w3];exact⟨j+1,by omega,j,siftDown (ltc cf) j a 0 (swp de a (a+j)),rfl,by omega,by rw[Gl _ _ _ (Nat.le_refl _)];exact hsw,hI,rfl,rfl⟩
  ·have hk0:k=0:=by omega
   subst hk0;simp only[go_sem];rw[hfin,←hI];exact Ad (r:=.tup []) rfl rfl
omit hl ho hce hC hb hn hs hd hsz in
theorem Aat{i j:Nat}{d:Array α}:reverseLoop i j d=if i<j then reverseLoop (i+1) (j-1) (swp d i j)else d:=by rw[reverseLoop]
omit hC hn hs in
theorem Aas{a e:Nat}(he:e≤n)(ha:a<e):AT Tryz.prog 203 [slv b n cap,int a,int e,fnv g] σ fun _ σ'=>σ'=σ.set b (.rows 1 (rw' en (reverseRange d a e)) false cap):=by
 refine AT.ob Tryz.func203 rfl ?_;have w1:IntKind.i64.wrap ((e:Int)-1)=((e-1:Nat):Int):=by rw[Ah (by omega)];omega
 simp only[go_sem,Aa,w1];refine⟨fun m fr σ'=>∃(i j:Nat) (d':Array α),m=j-i∧j<n∧i≤n∧d'.size=n∧reverseLoop i j d'=reverseRange d a e∧σ'=σ.set b (.rows 1 (rw' en d') false cap)∧fr 0=slv b n cap∧fr 8=int i∧fr 9=int j,⟨_,a,e-1,d,rfl,by omega,by omega,hd,rfl,(Bp hb).symm,rfl,rfl,rfl⟩,?_⟩;rintro m fr σ' ⟨i,j,dd,rfl,hj,hi,hdd,hI,rfl,f0,f8,f9⟩;rw[Aat]at hI;simp only[go_sem,f8,f9];refine aIf_by (fun hlt=>?_) (fun hlt=>?_)
 ·have w2:IntKind.i64.wrap ((j:Int)-1)=((j-1:Nat):Int):=by rw[Ah (by omega)];omega
  have q1:=Aj (en:=en) (d:=dd) (j:=i) (by omega);have q2:=Aj (en:=en) (d:=dd) (j:=j) (by omega);have q3:=Aj (en:=en) (d:=dd.setIfInBounds i dd[j]!) (j:=j) (by rw[Array.size_setIfInBounds];omega);rw[if_pos (by omega)]at hI;simp only[go_sem,Aa];refine Ae [.rd 0 false,.rd 1 false,.rd 2 false,.rd 3 false,.rd 4 false,.rd 5 false,.rd 6 false,.rd 7 true,.rd 8 false,.rd 9 false,.rd 10 false,.rd 11 true,.rd 12 false,.ef 13 [],.rd 14 false,.ef 15 []] ?_;simp only[go_sem,f0,f8,f9,Ab,q1,q2,Aw hl,Cc hl,hl,ho,hce,Bz,q3,Array.size_setIfInBounds,w2,Ai (show i<9223372036854775807 by omega)];refine⟨by omega,by omega,by omega,by omega,by omega,by omega,by omega,by omega,j-1-(i+1),by omega,i+1,j-1,swp dd i j,rfl,by omega,by omega,by rw[A8];exact hdd,hI,rfl,rfl,rfl⟩
 ·rw[if_neg (by omega)]at hI
  simp only[go_sem];rw[←hI];exact Ad (r:=.tup []) rfl rfl
end
def Kn:Hint→Int
 | .unknown=>0
 | .increasing=>1
 | .decreasing=>2
section
variable{α:Type}[Inhabited α]{en:α→List AV}(hl:∀x,(en x).length=1)(ho:∀x,(en x).all AV.one=true)(hce:∀x,((en x).getD 0 (.v undef)).cells=en x){cf:α→α→Int}{g:Nat}{β:St}(hC:∀σ',(∀x o,β x=some o→σ' x=some o)→∀x y,AT Tryz.prog g [(en x).getD 0 (.v undef),(en y).getD 0 (.v undef)] σ' fun r σ''=>r=int (cf x y)∧σ''=σ')
variable{σ:St}{b cap:Nat}{d:Array α}(hb:σ b=some (.rows 1 (rw' en d) false cap))(hn:β b=none)(hs:∀x o,β x=some o→σ x=some o){n:Nat}(hd:d.size=n)(hsz:n≤1000000000000)
variable{p:Nat}(hpb:p≠b)(hpn:β p=none)
theorem Cu{lt:α→α→Bool}{a c m k:Nat}(ha:a<m)(hc:c<m):(order2 lt d a c k).1<m∧(order2 lt d a c k).2.1<m∧(order2 lt d a c k).2.2≤k+1:=by
 unfold order2;split
 ·exact⟨hc,ha,Nat.le_refl _⟩
 ·exact⟨ha,hc,Nat.le_succ _⟩
theorem Pp{lt:α→α→Bool}{a c e m k:Nat}(ha:a<m)(hc:c<m)(he:e<m):(median lt d a c e k).1<m∧(median lt d a c e k).2≤k+3:=by
 unfold median;have h1:=Cu (d:=d) (lt:=lt) (k:=k) ha hc;have h2:=Cu (d:=d) (lt:=lt) (k:=(order2 lt d a c k).2.2) h1.2.1 he;have h3:=Cu (d:=d) (lt:=lt) (k:=(order2 lt d (order2 lt d a c k).2.1 e (order2 lt d a c k).2.2).2.2) h1.1 h2.1;exact⟨h3.2.1,by show(order2 lt d _ _ _).2.2≤_;omega⟩
include hl ho hce hC hb hn hs hd hsz hpb hpn
theorem Gi{a c k:Nat}(ha:a<n)(hc:c<n)(hk:k≤1000)(hp:σ p=some (.cells [int k])):AT Tryz.prog 239 [slv b n cap,int a,int c,ptr p,fnv g] σ fun r σ'=>r= .tup [int (order2 (ltc cf) d a c k).1,int (order2 (ltc cf) d a c k).2.1]∧σ'=σ.set p (.cells [int (order2 (ltc cf) d a c k).2.2]):=by
 refine AT.ob Tryz.func239 rfl ?_;have q1:=Aj (en:=en) (d:=d) (j:=a) (by omega);have q2:=Aj (en:=en) (d:=d) (j:=c) (by omega);simp only[go_sem];refine Ae [.rd 0 false,.rd 1 false,.rd 2 false,.rd 3 false,.rd 4 true,.rd 5 false,.rd 6 false,.rd 7 false,.rd 8 true,.ef 9 [],.rd 10 false] ?_;simp only[go_sem,hb,q1,q2,Aw hl];refine⟨by omega,by omega,by omega,by omega,(hC _ hs _ _).mono ?_⟩;rintro _ σ1 ⟨rfl,rfl⟩;simp only[go_sem];refine aIf_by (fun g2=>?_) (fun g2=>?_)
 ·have e:order2 (ltc cf) d a c k=(c,a,k+1):=by unfold order2;exact if_pos (decide_eq_true g2)
  simp only[go_sem,hp,Ai (show k<9223372036854775807 by omega)];refine Ad (r:=.tup [int c,int a]) rfl ?_;rw[e];exact⟨rfl,rfl⟩
 ·have e:order2 (ltc cf) d a c k=(a,c,k):=by unfold order2;exact if_neg (fun h=>g2 (of_decide_eq_true h))
  simp only[go_sem];refine Ad (r:=.tup [int a,int c]) rfl ?_;rw[e];exact⟨rfl,(Bp hp).symm⟩
theorem Gg{a c e k:Nat}(ha:a<n)(hc:c<n)(he:e<n)(hk:k≤990)(hp:σ p=some (.cells [int k])):AT Tryz.prog 232 [slv b n cap,int a,int c,int e,ptr p,fnv g] σ fun r σ'=>r=int (median (ltc cf) d a c e k).1∧σ'=σ.set p (.cells [int (median (ltc cf) d a c e k).2]):=by
 refine AT.ob Tryz.func232 rfl ?_;have hm:median (ltc cf) d a c e k=((order2 (ltc cf) d (order2 (ltc cf) d a c k).1 (order2 (ltc cf) d (order2 (ltc cf) d a c k).2.1 e (order2 (ltc cf) d a c k).2.2).1 (order2 (ltc cf) d (order2 (ltc cf) d a c k).2.1 e (order2 (ltc cf) d a c k).2.2).2.2).2.1,(order2 (ltc cf) d (order2 (ltc cf) d a c k).1 (order2 (ltc cf) d (order2 (ltc cf) d a c k).2.1 e (order2 (ltc cf) d a c k).2.2).1 (order2 (ltc cf) d (order2 (ltc cf) d a c k).2.1 e (order2 (ltc cf) d a c k).2.2).2.2).2.2):=rfl;rw[hm];have l1:=Cu (d:=d) (lt:=ltc cf) (k:=k) ha hc;generalize hx1:order2 (ltc cf) d a c k=x1 at l1⊢;have l2:=Cu (d:=d) (lt:=ltc cf) (k:=x1.2.2) l1.2.1 he;generalize hx2:order2 (ltc cf) d x1.2.1 e x1.2.2=x2 at l2⊢;have l3:=Cu (d:=d) (lt:=ltc cf) (k:=x2.2.2) l1.1 l2.1;generalize hx3:order2 (ltc cf) d x1.1 x2.1 x2.2.2=x3 at l3⊢;simp only[go_sem];refine(Gi hl ho hce hC hb hn hs hd hsz hpb hpn ha hc (by omega) hp).mono ?_;rintro _ _ ⟨rfl,rfl⟩;rw[hx1];simp only[go_sem];refine(Gi hl ho hce hC (σ:=σ.set p (.cells [int x1.2.2])) (by rw[Ag (Ne.symm hpb)];exact hb) hn (Ap hpn hs) hd hsz hpb hpn l1.2.1 he (by omega) Ab).mono ?_;rintro _ _ ⟨rfl,rfl⟩;rw[hx2];simp only[go_sem];refine(Gi hl ho hce hC (σ:=σ.set p (.cells [int x2.2.2])) (by rw[Ag (Ne.symm hpb)];exact hb) hn (Ap hpn hs) hd hsz hpb hpn l1.1 l2.1 (by omega) Ab).mono ?_;rintro _ _ ⟨rfl,rfl⟩;rw[hx3];simp only[go_sem];exact Ad (r:=int x3.2.1) rfl ⟨rfl,rfl⟩
theorem Gf{a k:Nat}(ha:1≤a)(ha2:a+1<n)(hk:k≤990)(hp:σ p=some (.cells [int k])):AT Tryz.prog 231 [slv b n cap,int a,ptr p,fnv g] σ fun r σ'=>r=int (medianAdjacent (ltc cf) d a k).1∧σ'=σ.set p (.cells [int (medianAdjacent (ltc cf) d a k).2]):=by
 refine AT.ob Tryz.func231 rfl ?_;have w1:IntKind.i64.wrap ((a:Int)-1)=((a-1:Nat):Int):=by rw[Ah (by omega)];omega
 simp only[go_sem,w1,Ai (show a<9223372036854775807 by omega)];refine(Gg hl ho hce hC hb hn hs hd hsz hpb hpn (by omega) (by omega) ha2 hk hp).mono ?_;rintro _ _ ⟨rfl,rfl⟩;simp only[go_sem];exact Ad (r:=int (medianAdjacent (ltc cf) d a k).1) rfl ⟨rfl,rfl⟩
omit hpb hpn in
theorem Se{a e:Nat}(he:e≤n)(ha:a+12<e):AT Tryz.prog 202 [slv b n cap,int a,int e,fnv g] σ fun r σ'=>r= .tup [int (choosePivot (ltc cf) d a e).1,int (Kn (choosePivot (ltc cf) d a e).2)]∧σ'=σ:=by
 refine AT.ob Tryz.func202 rfl ?_;obtain⟨q,hq⟩:∃q,q=(e-a)/4:=⟨_,rfl⟩;have w1:IntKind.i64.wrap ((e:Int)-a)=((e-a:Nat):Int):=by rw[Ah (by omega)];omega
 have w2:IntKind.i64.wrap (((e-a:Nat):Int).tdiv 4)=(q:Int):=by rw[Int.tdiv_eq_ediv_of_nonneg (by omega),Ah (by omega)];omega
 have w3:IntKind.i64.wrap ((a:Int)+IntKind.i64.wrap ((q:Int)*1))=((a+q:Nat):Int):=by rw[Ah (x:=(q:Int)*1) (by omega),Ah (by omega)];omega
 have w4:IntKind.i64.wrap ((a:Int)+IntKind.i64.wrap ((q:Int)*2))=((a+q*2:Nat):Int):=by rw[Ah (x:=(q:Int)*2) (by omega),Ah (by omega)];omega
 have w5:IntKind.i64.wrap ((a:Int)+IntKind.i64.wrap ((q:Int)*3))=((a+q*3:Nat):Int):=by rw[Ah (x:=(q:Int)*3) (by omega),Ah (by omega)];omega
 simp only[go_sem,w1];refine Ax fun p hp hpx=>?_;have hpb:p≠b:=fun h=>hpx b _ hb h.symm;have hpn:β p=none:=by
  cases h:β p with
  |none=>rfl
  |some o=>exact absurd rfl (hpx p o (hs p o h))
 have hb1:∀ob,(σ.set p ob) b=some (.rows 1 (rw' en d) false cap):=fun ob=>by rw[Ag (Ne.symm hpb)];exact hb
 have cp:∀r:Nat×Nat,r=(if 8≤e-a then(if 50≤e-a then median (ltc cf) d (medianAdjacent (ltc cf) d (a+q) 0).1 (medianAdjacent (ltc cf) d (a+q*2) (medianAdjacent (ltc cf) d (a+q) 0).2).1 (medianAdjacent (ltc cf) d (a+q*3) (medianAdjacent (ltc cf) d (a+q*2) (medianAdjacent (ltc cf) d (a+q) 0).2).2).1 (medianAdjacent (ltc cf) d (a+q*3) (medianAdjacent (ltc cf) d (a+q*2) (medianAdjacent (ltc cf) d (a+q) 0).2).2).2 else median (ltc cf) d (a+q) (a+q*2) (a+q*3) 0)else(a+q*2,0))→choosePivot (ltc cf) d a e=(r.1,if r.2=0 then .increasing else if r.2=12 then .decreasing else .unknown):=fun r h=>by
  subst h;subst hq;unfold choosePivot;simp only[Nat.mul_one]
 rw[if_pos (show 8≤e-a by omega)]at cp;have d8:=decide_eq_true (show(8:Int)≤((e-a:Nat):Int) by omega);have hm1:∀{a c k:Nat},1≤a→a+1<n→(medianAdjacent (ltc cf) d a k).1<n∧(medianAdjacent (ltc cf) d a k).2≤k+3:=fun h1 h2=>Pp (by omega) (by omega) h2;simp only[go_sem,w2,w3,w4,w5,w1,d8];apply Hg (fun fr σ'=>∃r:Nat×Nat,fr 13=int r.1∧fr 55=int r.2∧σ'=σ.set p (.cells [int r.2])∧choosePivot (ltc cf) d a e=(r.1,if r.2=0 then .increasing else if r.2=12 then .decreasing else .unknown))
 case h1=>
  intro key;refine aIf_by (fun g1=>?_) (fun g1=>?_)
  ·rw[if_pos (show 50≤e-a by omega)]at cp
   have l1:=hm1 (a:=a+q) (c:=0) (k:=0) (by omega) (by omega);simp only[go_sem];refine(Gf hl ho hce hC (σ:=σ.set p (.cells [int 0])) (hb1 _) hn (Ap hpn hs) hd hsz hpb hpn (a:=a+q) (k:=0) (by omega) (by omega) (by omega) Ab).mono ?_;rintro _ _ ⟨rfl,rfl⟩;generalize medianAdjacent (ltc cf) d (a+q) 0=x1 at cp l1⊢;have l2:=hm1 (a:=a+q*2) (c:=0) (k:=x1.2) (by omega) (by omega);simp only[go_sem];refine(Gf hl ho hce hC (σ:=σ.set p (.cells [int x1.2])) (hb1 _) hn (Ap hpn hs) hd hsz hpb hpn (a:=a+q*2) (k:=x1.2) (by omega) (by omega) (by omega) Ab).mono ?_;rintro _ _ ⟨rfl,rfl⟩;generalize medianAdjacent (ltc cf) d (a+q*2) x1.2=x2 at cp l2⊢;have l3:=hm1 (a:=a+q*3) (c:=0) (k:=x2.2) (by omega) (by omega);simp only[go_sem];refine(Gf hl ho hce hC (σ:=σ.set p (.cells [int x2.2])) (hb1 _) hn (Ap hpn hs) hd hsz hpb hpn (a:=a+q*3) (k:=x2.2) (by omega) (by omega) (by omega) Ab).mono ?_;rintro _ _ ⟨rfl,rfl⟩;generalize medianAdjacent (ltc cf) d (a+q*3) x2.2=x3 at cp l3⊢;simp only[go_sem];refine(Gg hl ho hce hC (σ:=σ.set p (.cells [int x3.2])) (hb1 _) hn (Ap hpn hs) hd hsz hpb hpn (a:=x1.1) (c:=x2.1) (e:=x3.1) (k:=x3.2) (by omega) (by omega) (by omega) (by omega) Ab).mono ?_;rintro _ _ ⟨rfl,rfl⟩;generalize median (ltc cf) d x1.1 x2.1 x3.1 x3.2=r at cp⊢;simp only[go_sem,Ab];refine key _ _ ?_;exact⟨r,rfl,rfl,rfl,cp r rfl⟩
  ·rw[if_neg (show¬50≤e-a by omega)]at cp
   simp only[go_sem];refine(Gg hl ho hce hC (σ:=σ.set p (.cells [int 0])) (hb1 _) hn (Ap hpn hs) hd hsz hpb hpn (a:=a+q) (c:=a+q*2) (e:=a+q*3) (k:=0) (by omega) (by omega) (by omega) (by omega) Ab).mono ?_;rintro _ _ ⟨rfl,rfl⟩;generalize median (ltc cf) d (a+q) (a+q*2) (a+q*3) 0=r at cp⊢;simp only[go_sem,Ab];refine key _ _ ?_;exact⟨r,rfl,rfl,rfl,cp r rfl⟩
 case h2=>
  rintro fr σ1 ⟨r,f13,f55,rfl,hcp⟩;have hdr:∀v,Gt (σ.set p (.cells [int r.2])) v σ v:=fun v=>Aq (Bt hp fun _ _ h=>h);rw[hcp];simp only[go_sem,Aa,f55];refine aIf_by (fun k1=>?_) (fun k1=>?_)
  ·simp only[go_sem,Aa,f13]
   refine Af (r:=.tup [int r.1,int 1]) rfl _ σ (hdr _) ⟨?_,rfl⟩;show _=AV.tup [int r.1,int (Kn (if r.2=0 then _ else _))];rw[if_pos (by omega)];rfl
  ·simp only[go_sem,Aa,f55]
   refine aIf_by (fun k2=>?_) (fun k2=>?_)
   ·simp only[go_sem,Aa,f13]
    refine Af (r:=.tup [int r.1,int 2]) rfl _ σ (hdr _) ⟨?_,rfl⟩;show _=AV.tup [int r.1,int (Kn (if r.2=0 then _ else if r.2=12 then _ else _))];rw[if_neg (by omega),if_pos (by omega)];rfl
   ·simp only[go_sem,Aa,f13]
    refine Af (r:=.tup [int r.1,int 0]) rfl _ σ (hdr _) ⟨?_,rfl⟩;show _=AV.tup [int r.1,int (Kn (if r.2=0 then _ else if r.2=12 then _ else _))];rw[if_neg (by omega),if_neg (by omega)];rfl
end
section
variable{α:Type}[Inhabited α]{en:α→List AV}(hl:∀x,(en x).length=1)(ho:∀x,(en x).all AV.one=true)(hce:∀x,((en x).getD 0 (.v undef)).cells=en x){cf:α→α→Int}{g:Nat}
variable{σ:St}{b cap:Nat}{d:Array α}(hb:σ b=some (.rows 1 (rw' en d) false cap)){n:Nat}(hd:d.size=n)(hsz:n≤1000000000000)
def brk(d:Array α)(a len m i0:Nat):Nat→UInt64×Array α
 |0=>(UInt64.ofNat len,d)
 |j+1=>breakStep a len m (brk d a len m i0 j) (i0+j)
theorem Sg{len:Nat}(h:0<len):1<<<bitsLen len≤2*len:=by
 unfold bitsLen;rw[if_neg (by omega),Nat.one_shiftLeft,Nat.pow_succ];have:=Nat.log2_self_le (n:=len) (by omega);omega
theorem Zh{a e:Nat}(h:8≤e-a):breakPatterns d a e=(brk d a (e-a) (1<<<bitsLen (e-a)) (a+(e-a)/4*2-1) 3).2:=by
 unfold breakPatterns;simp only[ge_iff_le,h,if_true];rfl
theorem Afr{x y:Nat}(hx:x<18446744073709551616)(hy:y<18446744073709551616):band .u64 (x:Int) (y:Int)=((x&&&y:Nat):Int):=by
 show IntKind.u64.wrap ((BitVec.ofInt 64 (x:Int)&&&BitVec.ofInt 64 (y:Int)).toNat:Int)=_;have h:x&&&y≤x:=Nat.and_le_left;rw[J2,BitVec.toNat_and,ofI,ofI,Nat.mod_eq_of_lt hx,Nat.mod_eq_of_lt hy,Nat.mod_eq_of_lt (by omega)]
def oth(len m:Nat)(s:UInt64):Nat:=if len≤(s.toNat&&&(m-1))then(s.toNat&&&(m-1))-len else s.toNat&&&(m-1)
theorem Aag{len:Nat}{s:UInt64}(h:0<len):oth len (1<<<bitsLen len) s<len:=by
 have h1:=Sg h;have h2:s.toNat&&&(1<<<bitsLen len-1)≤1<<<bitsLen len-1:=Nat.and_le_right;unfold oth;split<;>omega
include hl ho hce hb hd hsz
theorem Q6{a e:Nat}(he:e≤n)(ha:a+8≤e):AT Tryz.prog 201 [slv b n cap,int a,int e,fnv g] σ fun _ σ'=>σ'=σ.set b (.rows 1 (rw' en (breakPatterns d a e)) false cap):=by
 refine AT.ob Tryz.func201 rfl ?_;rw[Zh (by omega)];obtain⟨len,hlen⟩:∃len,len=e-a:=⟨_,rfl⟩;obtain⟨m,hm⟩:∃m,m=1<<<bitsLen len:=⟨_,rfl⟩;have hm2:m≤2*len:=by rw[hm];exact Sg (by omega)
 have hm1:1≤m:=by rw[hm,Nat.one_shiftLeft];exact Nat.one_le_two_pow
 obtain⟨q,hq⟩:∃q,q=len/4:=⟨_,rfl⟩;have w1:IntKind.i64.wrap ((e:Int)-a)=(len:Int):=by rw[Ah (by omega)];omega
 have w2:IntKind.i64.wrap ((len:Int).tdiv 4)=(q:Int):=by rw[Int.tdiv_eq_ediv_of_nonneg (by omega),Ah (by omega)];omega
 have w3:IntKind.i64.wrap ((a:Int)+IntKind.i64.wrap ((q:Int)*2))=((a+q*2:Nat):Int):=by rw[Ah (x:=(q:Int)*2) (by omega),Ah (by omega)];omega
 have w4:IntKind.i64.wrap (((a+q*2:Nat):Int)-1)=((a+q*2-1:Nat):Int):=by rw[Ah (by omega)];omega
 have w5:IntKind.i64.wrap (((a+q*2:Nat):Int)+1)=((a+q*2+1:Nat):Int):=by rw[Ah (by omega)];omega
 have w6:IntKind.u64.wrap (len:Int)=((UInt64.ofNat len).toNat:Int):=by rw[J2,UInt64.toNat_ofNat']
 rw[←hlen,←hm,←hq];have d8:=decide_eq_true (show(8:Int)≤(len:Int) by omega);simp only[go_sem,w1,d8,w6];refine Ax fun r hr hrx=>?_;have hrb:r≠b:=fun h=>hrx b _ hb h.symm;simp only[go_sem];refine(Ac3 (by omega)).mono ?_;rintro _ σ1 ⟨rfl,rfl⟩;rw[←hm];simp only[go_sem,Aa,w2,w3,w4];refine⟨fun k fr σ'=>∃j:Nat,k=3-j∧j≤3∧(brk d a len m (a+q*2-1) j).2.size=n∧σ' b=some (.rows 1 (rw' en (brk d a len m (a+q*2-1) j).2) false cap)∧σ' r=some (.cells [u64 (brk d a len m (a+q*2-1) j).1.toNat])∧(∀x o,σ x=some o→x≠b→σ' x=some o)∧fr 0=slv b n cap∧fr 1=int a∧fr 8=int len∧fr 9= .v (.pointer (some ⟨r,0,none⟩))∧fr 10=u64 m∧fr 11=int (a+q*2-1+j:Nat),⟨_,0,rfl,by omega,hd,by rw[Ag (Ne.symm hrb)];exact hb,Ab,fun x o hx _=>Bt hr (fun _ _ h=>h) x o hx,rfl,rfl,rfl,rfl,rfl,rfl⟩,?_⟩;rintro k fr σ' ⟨j,rfl,hj,hdd,hbb,hrr,hss,f0,f1,f8,f9,f10,f11⟩;simp only[go_sem,f1,f8,f11,w2,w3,w5];refine aIf_by (fun hlt=>?_) (fun hlt=>?_)
 ·have hj3:j<3:=by omega
  have hst:brk d a len m (a+q*2-1) (j+1)=(xorNext (brk d a len m (a+q*2-1) j).1,swp (brk d a len m (a+q*2-1) j).2 (a+q*2-1+j) (a+oth len m (xorNext (brk d a len m (a+q*2-1) j).1))):=rfl;generalize brk d a len m (a+q*2-1) j=st at hdd hbb hrr hst;obtain⟨s,dd⟩:=st;have hot:oth len m (xorNext s)<len:=by rw[hm];exact Aag (by omega)
  simp only[go_sem,Aa,f9];refine(Acs hrr).mono ?_;rintro _ _ ⟨rfl,rfl⟩;have v1:IntKind.u64.wrap ((m:Int)-1)=((m-1:Nat):Int):=by
   rw[show((m:Int)-1)=((m-1:Nat):Int) by omega,J2];omega
  have v2:band .u64 ((xorNext s).toNat:Int) ((m-1:Nat):Int)=(((xorNext s).toNat&&&(m-1):Nat):Int):=Afr (xorNext s).toNat_lt (by omega);have hand:(xorNext s).toNat&&&(m-1)≤m-1:=Nat.and_le_right;obtain⟨t,ht⟩:∃t,t=(xorNext s).toNat&&&(m-1):=⟨_,rfl⟩;rw[←ht]at v2 hand;have v3:IntKind.i64.wrap (t:Int)=(t:Int):=Ah (by omega);simp only[go_sem,f1,f8,f10,v1,v2,v3];refine Co (fun fr σ''=>σ''=σ'.set r (.cells [u64 (xorNext s).toNat])∧fr 0=slv b n cap∧fr 1=int a∧fr 8=int len∧fr 9= .v (.pointer (some ⟨r,0,none⟩))∧fr 10=u64 m∧fr 11=int (a+q*2-1+j:Nat)∧fr 12=int (oth len m (xorNext s))) (fun g1=>?_) (fun g1=>?_) ?_
  ·have v4:IntKind.i64.wrap ((t:Int)-len)=((t-len:Nat):Int):=by rw[Ah (by omega)];omega
   have e:oth len m (xorNext s)=t-len:=by unfold oth;rw[←ht,if_pos (by omega)]
   simp only[go_sem,f0,f1,f8,f9,f10,f11,v4,e]
  ·have e:oth len m (xorNext s)=t:=by unfold oth;rw[←ht,if_neg (by omega)]
   simp only[go_sem,f0,f1,f8,f9,f10,f11,e]
  clear f0 f1 f8 f9 f10 f11 ht v1 v2 v3;generalize oth len m (xorNext s)=k at hot hst;rintro fr σ2 ⟨hσ2,f0,f1,f8,f9,f10,f11,f12⟩;obtain⟨i,hi⟩:∃i,i=a+q*2-1+j:=⟨_,rfl⟩;have hb2:σ2 b=some (.rows 1 (rw' en dd) false cap):=by rw[hσ2,Ag (Ne.symm hrb)];exact hbb
  have hr2:σ2 r=some (.cells [u64 (xorNext s).toNat]):=by rw[hσ2];exact Ab
  have hs2:∀x o,σ x=some o→x≠b→σ2 x=some o:=fun x o hx hxb=>by
   rw[hσ2,Ag (hrx x o hx)];exact hss x o hx hxb
  have hdd:dd.size=n:=hdd;have v5:IntKind.i64.wrap ((a:Int)+(k:Int))=((a+k:Nat):Int):=by rw[Ah (by omega)];omega
  have v6:IntKind.i64.wrap (((a+q*2-1+j:Nat):Int)+1)=((a+q*2-1+(j+1):Nat):Int):=by rw[Ah (by omega)];omega
  have q1:=Aj (en:=en) (d:=dd) (j:=a+q*2-1+j) (by omega);have q2:=Aj (en:=en) (d:=dd) (j:=a+k) (by omega);have q3:=Aj (en:=en) (d:=dd.setIfInBounds (a+q*2-1+j) dd[a+k]!) (j:=a+k) (by rw[Array.size_setIfInBounds];omega);simp only[go_sem];refine Ae [.rd 0 false,.rd 1 false,.rd 2 false,.rd 3 false,.rd 4 false,.rd 5 false,.rd 6 false,.rd 7 false,.rd 8 false,.rd 9 false,.rd 10 false,.rd 11 true,.rd 12 false,.rd 13 false,.rd 14 false,.rd 15 true,.rd 16 false,.ef 17 [],.rd 18 false,.ef 19 []] ?_;simp only[go_sem,f0,f1,f11,f12,v5,hb2,Ab,q1,q2,Aw hl,Cc hl,hl,ho,hce,Bz,q3,Array.size_setIfInBounds,v6,f8,f9,f10];refine⟨by omega,by omega,by omega,by omega,by omega,by omega,by omega,by omega,3-(j+1),by omega,j+1,rfl,by omega,by rw[hst,A8];exact hdd,by rw[hst];rfl,by rw[Ag hrb,hst];exact hr2,fun x o hx hxb=>by rw[Ag hxb];exact hs2 x o hx hxb,rfl⟩
 ·obtain rfl:j=3:=by omega
  simp only[go_sem];refine Af (r:=.tup []) rfl _ (σ.set b (.rows 1 (rw' en (brk d a len m (a+q*2-1) 3).2) false cap)) (Aq fun x o hx=>?_) rfl;by_cases e:x=b
  ·subst e
   rw[Ab]at hx;rw[hbb];exact hx
  ·rw[Ag e]at hx
   exact hss x o hx e
end
section
variable{α:Type}[Inhabited α]{en:α→List AV}(hl:∀x,(en x).length=1)(ho:∀x,(en x).all AV.one=true)(hce:∀x,((en x).getD 0 (.v undef)).cells=en x){cf:α→α→Int}{g:Nat}{β:St}(hC:∀σ',(∀x o,β x=some o→σ' x=some o)→∀x y,AT Tryz.prog g [(en x).getD 0 (.v undef),(en y).getD 0 (.v undef)] σ' fun r σ''=>r=int (cf x y)∧σ''=σ')
variable{σ:St}{b cap:Nat}{d:Array α}(hb:σ b=some (.rows 1 (rw' en d) false cap))(hn:β b=none)(hs:∀x o,β x=some o→σ x=some o){n:Nat}(hd:d.size=n)(hsz:n≤1000000000000)
theorem V8{lt:α→α→Bool}{d:Array α}{e i:Nat}:scanSorted lt d e i=if i<e∧lt d[i]! d[i-1]! =false then scanSorted lt d e (i+1)else i:=by
 rw[scanSorted];by_cases h:i<e<;>cases h2:lt d[i]! d[i-1]! <;>simp[h]
theorem Aiv{lt:α→α→Bool}{d:Array α}{e j:Nat}:shiftUp lt e j d=if j<e∧lt d[j]! d[j-1]! =true then shiftUp lt e (j+1) (swp d j (j-1))else d:=by
 rw[shiftUp];by_cases h:j<e<;>cases h2:lt d[j]! d[j-1]! <;>simp[h]
def pst(lt:α→α→Bool)(a e:Nat)(i:Nat)(d:Array α):Array α:=
 let d1:=swp d i (i-1)
 let d2:=if 2≤i-a then shiftDown lt (i-1) d1 else d1
 if 2≤e-i then shiftUp lt e (i+1) d2 else d2
theorem Aam{lt:α→α→Bool}{a e s i:Nat}{d:Array α}:partialIns lt a e (s+1) i d=if scanSorted lt d e i=e then(d,true)else if e-a<50 then(d,false)else partialIns lt a e s (scanSorted lt d e i) (pst lt a e (scanSorted lt d e i) d):=rfl
include hl ho hce hC hb hn hs hd hsz
theorem Mv{a e:Nat}(he:e≤n)(ha:a<e):AT Tryz.prog 204 [slv b n cap,int a,int e,fnv g] σ fun r σ'=>r=boo (partialInsertionSort (ltc cf) d a e).2∧σ'=σ.set b (.rows 1 (rw' en (partialInsertionSort (ltc cf) d a e).1) false cap):=by
 refine AT.ob Tryz.func204 rfl ?_;simp only[go_sem,Aa,Ai (show a<9223372036854775807 by omega)];refine⟨fun m fr σ'=>∃(s i:Nat) (d':Array α),m=s∧s≤5∧a<i∧i≤e∧d'.size=n∧partialIns (ltc cf) a e s i d'=partialInsertionSort (ltc cf) d a e∧σ'=σ.set b (.rows 1 (rw' en d') false cap)∧fr 0=slv b n cap∧fr 1=int a∧fr 2=int e∧fr 3=fnv g∧fr 9=int i∧fr 10=int ((5:Int)-s),⟨_,5,a+1,d,rfl,by omega,by omega,by omega,hd,rfl,(Bp hb).symm,rfl,rfl,rfl,rfl,rfl,rfl⟩,?_⟩;rintro m fr σ' ⟨s,i,dd,hm,h5,hi1,hi2,hdd,hI,rfl,f0,f1,f2,f3,f9,f10⟩;subst hm;simp only[go_sem,f10];refine aIf_by (fun hlt=>?_) (fun hlt=>?_)
 ·obtain⟨t,rfl⟩:∃t,m=t+1:=⟨m-1,by omega⟩
  rw[Aam]at hI;simp only[go_sem];rw[Aa];simp only[go_sem];refine Fy (fun fr σ'=>σ'=σ.set b (.rows 1 (rw' en dd) false cap)∧∃j:Nat,a<j∧j≤e∧scanSorted (ltc cf) dd e i=j∧fr 0=slv b n cap∧fr 1=int a∧fr 2=int e∧fr 3=fnv g∧fr 9=int j∧fr 10=int ((5:Int)-(t+1:Nat))) ?_ ?_
  ·simp only[go_sem,Aa]
   refine⟨fun k fr σ'=>∃j:Nat,k=e-j∧a<j∧j≤e∧scanSorted (ltc cf) dd e j=scanSorted (ltc cf) dd e i∧σ'=σ.set b (.rows 1 (rw' en dd) false cap)∧fr 0=slv b n cap∧fr 1=int a∧fr 2=int e∧fr 3=fnv g∧fr 9=int j∧fr 10=int ((5:Int)-(t+1:Nat)),⟨_,i,rfl,hi1,hi2,rfl,rfl,f0,f1,f2,f3,f9,f10⟩,?_⟩;clear f0 f1 f2 f3 f9 f10 fr;rintro k fr σ' ⟨j,rfl,hj1,hj2,hJ,rfl,f0,f1,f2,f3,f9,f10⟩;rw[V8]at hJ;have w1:IntKind.i64.wrap ((j:Int)-1)=((j-1:Nat):Int):=by rw[Ah (by omega)];omega
   simp only[go_sem];refine Ae [.rd 0 false,.rd 1 false,.rd 2 false,.rd 3 false,.rd 4 false,.rd 5 false,.rd 6 false,.rd 7 false,.rd 8 true,.rd 9 false,.rd 10 false,.rd 11 false,.rd 12 false,.rd 13 true,.ef 14 [],.rd 15 false,.rd 16 false,.rd 17 false] ?_;by_cases g1:(j:Int)<e
   ·have q1:=Aj (en:=en) (d:=dd) (j:=j) (by omega)
    have q2:=Aj (en:=en) (d:=dd) (j:=j-1) (by omega);simp only[go_sem,f0,f1,f2,f3,f9,decide_eq_true g1,w1,Ab,q1,q2,Aw hl];refine⟨by omega,by omega,by omega,by omega,(hC _ (Ap hn hs) _ _).mono ?_⟩;rintro _ σ1 ⟨rfl,rfl⟩;simp only[go_sem];refine aIf_by (fun g2=>?_) (fun g2=>?_)
    ·rw[if_neg (by unfold ltc;rw[decide_eq_true g2];simp)]at hJ
     simp only[go_sem];exact⟨j,hj1,hj2,hJ.symm,f0,f1,f2,f3,f9,f10⟩
    ·rw[if_pos ⟨by omega,by unfold ltc;exact decide_eq_false g2⟩]at hJ
     simp only[go_sem,Aa,f0,f1,f2,f3,f9,f10,Ai (show j<9223372036854775807 by omega)];exact⟨e-(j+1),by omega,j+1,rfl,by omega,by omega,hJ,rfl⟩
   ·rw[if_neg (by omega)]at hJ
    simp only[go_sem,f2,f9,decide_eq_false g1];exact⟨j,hj1,hj2,hJ.symm,f0,f1,f3,rfl,f10⟩
  clear f0 f1 f2 f3 f9 f10 fr;rintro fr σ' ⟨rfl,j,hj1,hj2,hJ,f0,f1,f2,f3,f9,f10⟩;rw[hJ]at hI;have w1:IntKind.i64.wrap ((j:Int)-1)=((j-1:Nat):Int):=by rw[Ah (by omega)];omega
  have w2:IntKind.i64.wrap ((e:Int)-a)=((e-a:Nat):Int):=by rw[Ah (by omega)];omega
  have w3:IntKind.i64.wrap ((j:Int)-a)=((j-a:Nat):Int):=by rw[Ah (by omega)];omega
  have w4:IntKind.i64.wrap ((e:Int)-j)=((e-j:Nat):Int):=by rw[Ah (by omega)];omega
  simp only[go_sem,f2,f9];refine aIf_by (fun g1=>?_) (fun g1=>?_)
  ·rw[if_pos (by omega)]at hI
   simp only[go_sem];rw[←hI];exact Ad (r:=boo true) rfl ⟨rfl,rfl⟩
  rw[if_neg (by omega)]at hI;simp only[go_sem,f1,f2,w2];refine aIf_by (fun g2=>?_) (fun g2=>?_)
  ·rw[if_pos (by omega)]at hI
   simp only[go_sem];rw[←hI];exact Ad (r:=boo false) rfl ⟨rfl,rfl⟩
  rw[if_neg (by omega)]at hI;simp only[go_sem];have q1:=Aj (en:=en) (d:=dd) (j:=j) (by omega);have q2:=Aj (en:=en) (d:=dd) (j:=j-1) (by omega);have q3:=Aj (en:=en) (d:=dd.setIfInBounds j dd[j-1]!) (j:=j-1) (by rw[Array.size_setIfInBounds];omega);refine Ae [.rd 0 false,.rd 1 false,.rd 2 false,.rd 3 false,.rd 4 false,.rd 5 false,.rd 6 false,.rd 7 false,.rd 8 false,.rd 9 true,.rd 10 false,.rd 11 false,.rd 12 false,.rd 13 true,.rd 14 false,.ef 15 [],.rd 16 false,.ef 17 []] ?_;simp only[go_sem,f0,f1,f2,f3,f9,w1,w3,Ab,q1,q2,Aw hl,Cc hl,hl,ho,hce,Bz,q3,Array.size_setIfInBounds];refine⟨by omega,by omega,by omega,by omega,by omega,by omega,by omega,by omega,?_⟩;obtain⟨d1,hd1⟩:∃d1,d1=swp dd j (j-1):=⟨_,rfl⟩;have hz1:d1.size=n:=by rw[hd1,A8];exact hdd
  have hI:partialIns (ltc cf) a e t j (if 2≤e-j then shiftUp (ltc cf) e (j+1) (if 2≤j-a then shiftDown (ltc cf) (j-1) d1 else d1)else(if 2≤j-a then shiftDown (ltc cf) (j-1) d1 else d1))=partialInsertionSort (ltc cf) d a e:=by rw[hd1];exact hI
  have e1:B7.rows 1 (rw' en ((dd.setIfInBounds j dd[j-1]!).setIfInBounds (j-1) dd[j]!)) false cap=B7.rows 1 (rw' en d1) false cap:=by rw[hd1];rfl
  rw[e1];clear e1 q1 q2 q3;refine Co (fun fr σ'=>∃d2,d2=(if 2≤j-a then shiftDown (ltc cf) (j-1) d1 else d1)∧d2.size=n∧σ'=σ.set b (.rows 1 (rw' en d2) false cap)∧fr 0=slv b n cap∧fr 1=int a∧fr 2=int e∧fr 3=fnv g∧fr 9=int j∧fr 10=int ((5:Int)-(t+1:Nat))) (fun g3=>?_) (fun g3=>?_) ?_
  ·rw[if_pos (by omega)]
   simp only[go_sem,Aa,f9,w1];refine⟨fun m fr σ'=>∃(k:Nat) (dk:Array α),m=k+1∧k<n∧dk.size=n∧shiftDown (ltc cf) k dk=shiftDown (ltc cf) (j-1) d1∧σ'=σ.set b (.rows 1 (rw' en dk) false cap)∧fr 0=slv b n cap∧fr 1=int a∧fr 2=int e∧fr 3=fnv g∧fr 9=int j∧fr 10=int ((5:Int)-(t+1:Nat))∧fr 11=int k,⟨_,j-1,d1,rfl,by omega,hz1,rfl,rfl,f0,f1,f2,f3,f9,f10,rfl⟩,?_⟩;clear f0 f1 f2 f3 f9 f10 fr;rintro m fr σ' ⟨k,dk,rfl,hk,hdk,hK,rfl,f0,f1,f2,f3,f9,f10,f11⟩;simp only[go_sem,f11];refine aIf_by (fun g4=>?_) (fun g4=>?_)
   ·obtain⟨l,rfl⟩:∃l,k=l+1:=⟨k-1,by omega⟩
    have w5:IntKind.i64.wrap (((l+1:Nat):Int)-1)=(l:Int):=by rw[Ah (by omega)];omega
    have q1:=Aj (en:=en) (d:=dk) (j:=l+1) (by omega);have q2:=Aj (en:=en) (d:=dk) (j:=l) (by omega);have q3:=Aj (en:=en) (d:=dk.setIfInBounds (l+1) dk[l]!) (j:=l) (by rw[Array.size_setIfInBounds];omega);rw[shiftDown]at hK;simp only[go_sem,Aa];refine Ae [.rd 0 false,.rd 1 false,.rd 2 false,.rd 3 false,.rd 4 true,.rd 5 false,.rd 6 false,.rd 7 false,.rd 8 false,.rd 9 true,.ef 10 [],.rd 11 false,.rd 12 false] ?_;simp only[go_sem,f0,f3,f11,w5,Ab,q1,q2,Aw hl];refine⟨by omega,by omega,by omega,by omega,(hC _ (Ap hn hs) _ _).mono ?_⟩;rintro _ σ1 ⟨rfl,rfl⟩;simp only[go_sem];refine aIf_by (fun g5=>?_) (fun g5=>?_)
    ·rw[if_neg (by unfold ltc;rw[decide_eq_true g5];simp)]at hK
     simp only[go_sem];refine Ae [.rd 0 false,.rd 1 false,.rd 2 false,.rd 3 false,.rd 4 false,.rd 5 false,.rd 6 false,.rd 7 false,.rd 8 false,.rd 9 true,.rd 10 false,.rd 11 false,.rd 12 false,.rd 13 true,.rd 14 false,.ef 15 [],.rd 16 false,.ef 17 []] ?_;simp only[go_sem,f0,f3,f11,w5,Ab,q1,q2,Aw hl,Cc hl,hl,ho,hce,Bz,q3,Array.size_setIfInBounds,f1,f2,f9,f10];exact⟨by omega,by omega,by omega,by omega,by omega,by omega,by omega,by omega,l+1,by omega,l,swp dk (l+1) l,rfl,by omega,by rw[A8];exact hdk,hK,rfl,rfl⟩
    ·rw[if_pos (by unfold ltc;rw[decide_eq_false g5];rfl)]at hK
     simp only[go_sem];exact⟨dk,hK,hdk,rfl,f0,f1,f2,f3,f9,f10⟩
   ·obtain rfl:k=0:=by omega
    simp only[go_sem];exact⟨dk,hK,hdk,rfl,f0,f1,f2,f3,f9,f10⟩
  ·rw[if_neg (by omega)]
   simp only[go_sem];exact⟨d1,rfl,hz1,rfl,f0,f1,f2,f3,f9,f10⟩
  clear f0 f1 f2 f3 f9 f10 fr;rintro fr σ' ⟨d2,hd2,hz2,rfl,f0,f1,f2,f3,f9,f10⟩;rw[←hd2]at hI;clear hd1 hd2 hz1 d1;simp only[go_sem,f2,f9,w4];have w6:IntKind.i64.wrap (((5:Int)-(t+1:Nat))+1)=(5:Int)-(t:Nat):=by rw[Ah (by omega)];omega
  refine aIf_by (fun g3=>?_) (fun g3=>?_)
  ·rw[if_pos (by omega)]at hI
   simp only[go_sem,Aa,f9,Ai (show j<9223372036854775807 by omega)];refine⟨fun m fr σ'=>∃(k:Nat) (dk:Array α),m=e-k∧j<k∧dk.size=n∧shiftUp (ltc cf) e k dk=shiftUp (ltc cf) e (j+1) d2∧σ'=σ.set b (.rows 1 (rw' en dk) false cap)∧fr 0=slv b n cap∧fr 1=int a∧fr 2=int e∧fr 3=fnv g∧fr 9=int j∧fr 10=int ((5:Int)-(t+1:Nat))∧fr 12=int k,⟨_,j+1,d2,rfl,by omega,hz2,rfl,rfl,f0,f1,f2,f3,f9,f10,rfl⟩,?_⟩;clear f0 f1 f2 f3 f9 f10 fr;rintro m fr σ' ⟨k,dk,rfl,hk,hdk,hK,rfl,f0,f1,f2,f3,f9,f10,f12⟩;rw[Aiv]at hK;simp only[go_sem,f12,f2];refine aIf_by (fun g4=>?_) (fun g4=>?_)
   ·have w5:IntKind.i64.wrap ((k:Int)-1)=((k-1:Nat):Int):=by rw[Ah (by omega)];omega
    have q1:=Aj (en:=en) (d:=dk) (j:=k) (by omega);have q2:=Aj (en:=en) (d:=dk) (j:=k-1) (by omega);have q3:=Aj (en:=en) (d:=dk.setIfInBounds k dk[k-1]!) (j:=k-1) (by rw[Array.size_setIfInBounds];omega);simp only[go_sem,Aa];refine Ae [.rd 0 false,.rd 1 false,.rd 2 false,.rd 3 false,.rd 4 true,.rd 5 false,.rd 6 false,.rd 7 false,.rd 8 false,.rd 9 true,.ef 10 [],.rd 11 false,.rd 12 false] ?_;simp only[go_sem,f0,f3,f12,w5,Ab,q1,q2,Aw hl];refine⟨by omega,by omega,by omega,by omega,(hC _ (Ap hn hs) _ _).mono ?_⟩;rintro _ σ1 ⟨rfl,rfl⟩;simp only[go_sem];refine aIf_by (fun g5=>?_) (fun g5=>?_)
    ·rw[if_pos ⟨by omega,by unfold ltc;exact decide_eq_true g5⟩]at hK
     simp only[go_sem];refine Ae [.rd 0 false,.rd 1 false,.rd 2 false,.rd 3 false,.rd 4 false,.rd 5 false,.rd 6 false,.rd 7 false,.rd 8 false,.rd 9 true,.rd 10 false,.rd 11 false,.rd 12 false,.rd 13 true,.rd 14 false,.ef 15 [],.rd 16 false,.ef 17 []] ?_;simp only[go_sem,f0,f3,f12,w5,Ab,q1,q2,Aw hl,Cc hl,hl,ho,hce,Bz,q3,Array.size_setIfInBounds,f1,f2,f9,f10,Ai (show k<9223372036854775807 by omega)];exact⟨by omega,by omega,by omega,by omega,by omega,by omega,by omega,by omega,e-(k+1),by omega,k+1,swp dk k (k-1),rfl,by omega,by rw[A8];exact hdk,hK,rfl,rfl⟩
    ·rw[if_neg (fun h=>g5 (of_decide_eq_true h.2))]at hK
     simp only[go_sem,f0,f1,f2,f3,f9,f10,w6];exact⟨t,by omega,t,j,dk,rfl,by omega,hj1,hj2,hdk,by rw[hK];exact hI,rfl,rfl,rfl⟩
   ·rw[if_neg (fun h=>g4 (by omega))]at hK
    simp only[go_sem,f0,f1,f2,f3,f9,f10,w6];exact⟨t,by omega,t,j,dk,rfl,by omega,hj1,hj2,hdk,by rw[hK];exact hI,rfl,rfl,rfl⟩
  ·rw[if_neg (by omega)]at hI
   simp only[go_sem,f0,f1,f2,f3,f9,f10,w6];exact⟨t,by omega,t,j,d2,rfl,by omega,hj1,hj2,hz2,hI,rfl,rfl,rfl⟩
 ·obtain rfl:m=0:=by omega
  simp only[go_sem];rw[←hI];exact Ad (r:=boo false) rfl ⟨rfl,rfl⟩
end
section
variable{α:Type}[Inhabited α]{en:α→List AV}(hl:∀x,(en x).length=1)(ho:∀x,(en x).all AV.one=true)(hce:∀x,((en x).getD 0 (.v undef)).cells=en x){cf:α→α→Int}{g:Nat}{β:St}(hC:∀σ',(∀x o,β x=some o→σ' x=some o)→∀x y,AT Tryz.prog g [(en x).getD 0 (.v undef),(en y).getD 0 (.v undef)] σ' fun r σ''=>r=int (cf x y)∧σ''=σ')
variable{σ:St}{b cap:Nat}{d:Array α}(hb:σ b=some (.rows 1 (rw' en d) false cap))(hn:β b=none)(hs:∀x o,β x=some o→σ x=some o){n:Nat}(hd:d.size=n)(hsz:n≤1000000000000)
theorem Mz{p:α→Bool}{d:Array α}{j i:Nat}:scanUp p d j i=if i≤j∧p d[i]! =true then scanUp p d j (i+1)else i:=by
 rw[scanUp];by_cases h:i≤j<;>cases h2:p d[i]! <;>simp[h]
theorem My{p:α→Bool}{d:Array α}{i j:Nat}(hi:1≤i):scanDown p d i j=if i≤j∧p d[j]! =true then scanDown p d i (j-1)else j:=by
 cases j with
 |zero=>rw[scanDown,if_neg (fun h=>by omega)]
 |succ k=>
  rw[scanDown];by_cases h:i≤k+1<;>cases h2:p d[k+1]! <;>simp[h]
theorem Sd{lt:α→α→Bool}{a i j i2 j2:Nat}{d:Array α}(h1:scanUp (fun x=>!lt d[a]! x) d j i=i2)(h2:scanDown (fun x=>lt d[a]! x) d i2 j=j2)(h:j2<i2):partEqLoop lt a i j d=(i2,d):=by
 rw[partEqLoop];simp only[h1,h2];rw[if_pos h]
theorem Aal{lt:α→α→Bool}{a i j i2 j2:Nat}{d:Array α}(h1:scanUp (fun x=>!lt d[a]! x) d j i=i2)(h2:scanDown (fun x=>lt d[a]! x) d i2 j=j2)(h:¬j2<i2)(hi:i≤i2)(hj:j2≤j):partEqLoop lt a i j d=partEqLoop lt a (i2+1) (j2-1) (swp d i2 j2):=by
 rw[partEqLoop];simp only[h1,h2];rw[if_neg h,dif_pos (by omega)]
include hl ho hce hC hb hn hs hd hsz
theorem Pr{a e pv:Nat}(he:e≤n)(ha:a+2≤e)(hp:pv<n):AT Tryz.prog 205 [slv b n cap,int a,int e,int pv,fnv g] σ fun r σ'=>r=int (partitionEqual (ltc cf) d a e pv).1∧σ'=σ.set b (.rows 1 (rw' en (partitionEqual (ltc cf) d a e pv).2) false cap):=by
 refine AT.ob Tryz.func205 rfl ?_;have q1:=Aj (en:=en) (d:=d) (j:=a) (by omega);have q2:=Aj (en:=en) (d:=d) (j:=pv) (by omega);have q3:=Aj (en:=en) (d:=d.setIfInBounds a d[pv]!) (j:=pv) (by rw[Array.size_setIfInBounds];omega);have w1:IntKind.i64.wrap ((e:Int)-1)=((e-1:Nat):Int):=by rw[Ah (by omega)];omega
 simp only[go_sem];refine Ae [.rd 0 false,.rd 1 false,.rd 2 false,.rd 3 false,.rd 4 false,.rd 5 false,.rd 6 false,.rd 7 true,.rd 8 false,.rd 9 false,.rd 10 false,.rd 11 true,.rd 12 false,.ef 13 [],.rd 14 false,.ef 15 []] ?_;simp only[go_sem,Aa,hb,Ab,q1,q2,Aw hl,Cc hl,hl,ho,hce,Bz,q3,Array.size_setIfInBounds,w1,Ai (show a<9223372036854775807 by omega)];refine⟨by omega,by omega,by omega,by omega,by omega,by omega,by omega,by omega,?_⟩;clear q1 q2 q3;refine⟨fun m fr σ'=>∃(i j:Nat) (d':Array α),m=j+1-i∧a<i∧i≤e∧j<e∧i≤j+2∧d'.size=n∧partEqLoop (ltc cf) a i j d'=partitionEqual (ltc cf) d a e pv∧σ'=σ.set b (.rows 1 (rw' en d') false cap)∧fr 0=slv b n cap∧fr 1=int a∧fr 4=fnv g∧fr 11=int i∧fr 12=int j,⟨_,a+1,e-1,swp d a pv,rfl,by omega,by omega,by omega,by omega,by rw[A8];exact hd,rfl,rfl,rfl,rfl,rfl,rfl,rfl⟩,?_⟩;rintro m fr σ' ⟨i,j,dd,rfl,hi1,hi2,hj1,hij,hdd,hI,rfl,f0,f1,f4,f11,f12⟩;simp only[go_sem];rw[Aa];simp only[go_sem];refine Fy (fun fr σ'=>σ'=σ.set b (.rows 1 (rw' en dd) false cap)∧∃i2:Nat,i≤i2∧(i2≤i∨i2≤j+1)∧scanUp (fun x=>!ltc cf dd[a]! x) dd j i=i2∧fr 0=slv b n cap∧fr 1=int a∧fr 4=fnv g∧fr 11=int i2∧fr 12=int j) ?_ ?_
 ·simp only[go_sem,Aa]
  refine⟨fun m fr σ'=>∃i2:Nat,m=j+1-i2∧i≤i2∧(i2≤i∨i2≤j+1)∧scanUp (fun x=>!ltc cf dd[a]! x) dd j i2=scanUp (fun x=>!ltc cf dd[a]! x) dd j i∧σ'=σ.set b (.rows 1 (rw' en dd) false cap)∧fr 0=slv b n cap∧fr 1=int a∧fr 4=fnv g∧fr 11=int i2∧fr 12=int j,⟨_,i,rfl,by omega,by omega,rfl,rfl,f0,f1,f4,f11,f12⟩,?_⟩;clear f0 f1 f4 f11 f12 fr;rintro m fr σ' ⟨i2,rfl,h1,h2,hJ,rfl,f0,f1,f4,f11,f12⟩;rw[Mz]at hJ;simp only[go_sem];refine Ae [.rd 0 false,.rd 1 false,.rd 2 false,.rd 3 false,.rd 4 false,.rd 5 false,.rd 6 false,.rd 7 false,.rd 8 true,.rd 9 false,.rd 10 false,.rd 11 false,.rd 12 true,.ef 13 [],.rd 14 false,.rd 15 false,.rd 16 false] ?_;by_cases g1:(i2:Int)≤j
  ·have q1:=Aj (en:=en) (d:=dd) (j:=i2) (by omega)
   have q2:=Aj (en:=en) (d:=dd) (j:=a) (by omega);simp only[go_sem,f0,f1,f4,f11,f12,decide_eq_true g1,Ab,q1,q2,Aw hl];refine⟨by omega,by omega,by omega,by omega,(hC _ (Ap hn hs) _ _).mono ?_⟩;rintro _ σ1 ⟨rfl,rfl⟩;simp only[go_sem];refine aIf_by (fun g2=>?_) (fun g2=>?_)
   ·rw[if_neg (by unfold ltc;rw[decide_eq_true g2];simp)]at hJ
    simp only[go_sem];exact⟨i2,h1,h2,hJ.symm,f0,f1,f4,f11,f12⟩
   ·rw[if_pos ⟨by omega,by unfold ltc;rw[decide_eq_false g2];rfl⟩]at hJ
    simp only[go_sem,Aa,f0,f1,f4,f11,f12,Ai (show i2<9223372036854775807 by omega)];exact⟨j+1-(i2+1),by omega,i2+1,rfl,by omega,by omega,hJ,rfl⟩
  ·rw[if_neg (by omega)]at hJ
   simp only[go_sem,f11,f12,decide_eq_false g1];exact⟨i2,h1,h2,hJ.symm,f0,f1,f4,rfl⟩
 clear f0 f1 f4 f11 f12 fr;rintro fr σ' ⟨rfl,i2,h1,h2,hi3,f0,f1,f4,f11,f12⟩;simp only[go_sem];refine Fy (fun fr σ'=>σ'=σ.set b (.rows 1 (rw' en dd) false cap)∧∃j2:Nat,j2≤j∧scanDown (fun x=>ltc cf dd[a]! x) dd i2 j=j2∧(i2≤j→i2≤j2+1)∧(j<i2→j2=j)∧fr 0=slv b n cap∧fr 1=int a∧fr 4=fnv g∧fr 11=int i2∧fr 12=int j2) ?_ ?_
 ·simp only[go_sem,Aa]
  refine⟨fun m fr σ'=>∃j2:Nat,m=j2∧j2≤j∧scanDown (fun x=>ltc cf dd[a]! x) dd i2 j2=scanDown (fun x=>ltc cf dd[a]! x) dd i2 j∧(i2≤j→i2≤j2+1)∧(j<i2→j2=j)∧σ'=σ.set b (.rows 1 (rw' en dd) false cap)∧fr 0=slv b n cap∧fr 1=int a∧fr 4=fnv g∧fr 11=int i2∧fr 12=int j2,⟨_,j,rfl,by omega,rfl,by omega,by omega,rfl,f0,f1,f4,f11,f12⟩,?_⟩;clear f0 f1 f4 f11 f12 fr;rintro m fr σ' ⟨j2,hm,k1,hJ,k2,k3,rfl,f0,f1,f4,f11,f12⟩;subst hm;rw[My (by omega)]at hJ;simp only[go_sem];refine Ae [.rd 0 false,.rd 1 false,.rd 2 false,.rd 3 false,.rd 4 false,.rd 5 false,.rd 6 false,.rd 7 false,.rd 8 true,.rd 9 false,.rd 10 false,.rd 11 false,.rd 12 true,.ef 13 [],.rd 14 false,.rd 15 false] ?_;by_cases g1:(i2:Int)≤m
  ·have q1:=Aj (en:=en) (d:=dd) (j:=m) (by omega)
   have q2:=Aj (en:=en) (d:=dd) (j:=a) (by omega);have w2:IntKind.i64.wrap ((m:Int)-1)=((m-1:Nat):Int):=by rw[Ah (by omega)];omega
   simp only[go_sem,f0,f1,f4,f11,f12,decide_eq_true g1,Ab,q1,q2,Aw hl];refine⟨by omega,by omega,by omega,by omega,(hC _ (Ap hn hs) _ _).mono ?_⟩;rintro _ σ1 ⟨rfl,rfl⟩;simp only[go_sem];refine aIf_by (fun g2=>?_) (fun g2=>?_)
   ·rw[if_pos ⟨by omega,by unfold ltc;exact decide_eq_true g2⟩]at hJ
    simp only[go_sem,Aa,f0,f1,f4,f11,f12,w2];exact⟨m-1,by omega,m-1,rfl,by omega,hJ,by omega,by omega,rfl⟩
   ·rw[if_neg (fun h=>g2 (of_decide_eq_true h.2))]at hJ
    simp only[go_sem];exact⟨m,k1,hJ.symm,k2,k3,f0,f1,f4,f11,f12⟩
  ·rw[if_neg (fun h=>g1 (by omega))]at hJ
   simp only[go_sem,f11,f12,decide_eq_false g1];exact⟨m,k1,hJ.symm,k2,k3,f0,f1,f4,rfl⟩
 clear f0 f1 f4 f11 f12 fr;rintro fr σ' ⟨rfl,j2,k1,hj3,k2,k3,f0,f1,f4,f11,f12⟩;simp only[go_sem,f11,f12];refine aIf_by (fun g1=>?_) (fun g1=>?_)
 ·rw[Sd hi3 hj3 (by omega)]at hI
  simp only[go_sem,f11];rw[←hI];exact Ad (r:=int i2) rfl ⟨rfl,rfl⟩
 ·rw[Aal hi3 hj3 (by omega) h1 k1]at hI
  have w2:IntKind.i64.wrap ((j2:Int)-1)=((j2-1:Nat):Int):=by rw[Ah (by omega)];omega
  have q1:=Aj (en:=en) (d:=dd) (j:=i2) (by omega);have q2:=Aj (en:=en) (d:=dd) (j:=j2) (by omega);have q3:=Aj (en:=en) (d:=dd.setIfInBounds i2 dd[j2]!) (j:=j2) (by rw[Array.size_setIfInBounds];omega);simp only[go_sem];refine Ae [.rd 0 false,.rd 1 false,.rd 2 false,.rd 3 false,.rd 4 false,.rd 5 false,.rd 6 false,.rd 7 true,.rd 8 false,.rd 9 false,.rd 10 false,.rd 11 true,.rd 12 false,.ef 13 [],.rd 14 false,.ef 15 []] ?_;simp only[go_sem,f0,f1,f4,f11,f12,Ab,q1,q2,Aw hl,Cc hl,hl,ho,hce,Bz,q3,Array.size_setIfInBounds,w2,Ai (show i2<9223372036854775807 by omega)];exact⟨by omega,by omega,by omega,by omega,by omega,by omega,by omega,by omega,j2-1+1-(i2+1),by omega,i2+1,j2-1,swp dd i2 j2,rfl,by omega,by omega,by omega,by omega,by rw[A8];exact hdd,hI,rfl,rfl,rfl⟩
end
section
variable{α:Type}[Inhabited α]{en:α→List AV}(hl:∀x,(en x).length=1)(ho:∀x,(en x).all AV.one=true)(hce:∀x,((en x).getD 0 (.v undef)).cells=en x){cf:α→α→Int}{g:Nat}{β:St}(hC:∀σ',(∀x o,β x=some o→σ' x=some o)→∀x y,AT Tryz.prog g [(en x).getD 0 (.v undef),(en y).getD 0 (.v undef)] σ' fun r σ''=>r=int (cf x y)∧σ''=σ')
variable{σ:St}{b cap:Nat}{d:Array α}(hb:σ b=some (.rows 1 (rw' en d) false cap))(hn:β b=none)(hs:∀x o,β x=some o→σ x=some o){n:Nat}(hd:d.size=n)(hsz:n≤1000000000000)
theorem Vv{lt:α→α→Bool}{a i j i2 j2:Nat}{d:Array α}(h1:scanUp (fun x=>lt x d[a]!) d j i=i2)(h2:scanDown (fun x=>!lt x d[a]!) d i2 j=j2)(h:j2<i2):partLoop lt a i j d=(j2,d):=by
 rw[partLoop];simp only[h1,h2];rw[if_pos h]
theorem Ah6{lt:α→α→Bool}{a i j i2 j2:Nat}{d:Array α}(h1:scanUp (fun x=>lt x d[a]!) d j i=i2)(h2:scanDown (fun x=>!lt x d[a]!) d i2 j=j2)(h:¬j2<i2)(hi:i≤i2)(hj:j2≤j):partLoop lt a i j d=partLoop lt a (i2+1) (j2-1) (swp d i2 j2):=by
 rw[partLoop];simp only[h1,h2];rw[if_neg h,dif_pos (by omega)]
theorem Vw{lt:α→α→Bool}{a e pv i2 j2:Nat}{d d0:Array α}(h0:d0=swp d a pv)(h1:scanUp (fun x=>lt x d0[a]!) d0 (e-1) (a+1)=i2)(h2:scanDown (fun x=>!lt x d0[a]!) d0 i2 (e-1)=j2)(h:j2<i2):partition lt d a e pv=(j2,true,swp d0 j2 a):=by
 unfold partition;simp only[←h0,h1,h2];rw[if_pos h]
theorem Ah7{lt:α→α→Bool}{a e pv i2 j2:Nat}{d d0:Array α}(h0:d0=swp d a pv)(h1:scanUp (fun x=>lt x d0[a]!) d0 (e-1) (a+1)=i2)(h2:scanDown (fun x=>!lt x d0[a]!) d0 i2 (e-1)=j2)(h:¬j2<i2):partition lt d a e pv=((partLoop lt a (i2+1) (j2-1) (swp d0 i2 j2)).1,false,swp (partLoop lt a (i2+1) (j2-1) (swp d0 i2 j2)).2 (partLoop lt a (i2+1) (j2-1) (swp d0 i2 j2)).1 a):=by
 unfold partition;simp only[←h0,h1,h2];rw[if_neg h]
include hl ho hce hC hb hn hs hd hsz
theorem N9{a e pv:Nat}(he:e≤n)(ha:a+2≤e)(hp:pv<n):AT Tryz.prog 206 [slv b n cap,int a,int e,int pv,fnv g] σ fun r σ'=>r= .tup [int (partition (ltc cf) d a e pv).1,boo (partition (ltc cf) d a e pv).2.1]∧σ'=σ.set b (.rows 1 (rw' en (partition (ltc cf) d a e pv).2.2) false cap):=by
 refine AT.ob Tryz.func206 rfl ?_;have q1:=Aj (en:=en) (d:=d) (j:=a) (by omega);have q2:=Aj (en:=en) (d:=d) (j:=pv) (by omega);have q3:=Aj (en:=en) (d:=d.setIfInBounds a d[pv]!) (j:=pv) (by rw[Array.size_setIfInBounds];omega);have w1:IntKind.i64.wrap ((e:Int)-1)=((e-1:Nat):Int):=by rw[Ah (by omega)];omega
 simp only[go_sem];refine Ae [.rd 0 false,.rd 1 false,.rd 2 false,.rd 3 false,.rd 4 false,.rd 5 false,.rd 6 false,.rd 7 true,.rd 8 false,.rd 9 false,.rd 10 false,.rd 11 true,.rd 12 false,.ef 13 [],.rd 14 false,.ef 15 []] ?_;simp only[go_sem,hb,Ab,q1,q2,Aw hl,Cc hl,hl,ho,hce,Bz,q3,Array.size_setIfInBounds,w1,Ai (show a<9223372036854775807 by omega)];refine⟨by omega,by omega,by omega,by omega,by omega,by omega,by omega,by omega,?_⟩;clear q1 q2 q3;obtain⟨d0,hd0⟩:∃d0,d0=swp d a pv:=⟨_,rfl⟩;have hz0:d0.size=n:=by rw[hd0,A8];exact hd
 have e1:B7.rows 1 (rw' en ((d.setIfInBounds a d[pv]!).setIfInBounds pv d[a]!)) false cap=B7.rows 1 (rw' en d0) false cap:=by rw[hd0];rfl
 rw[e1];clear e1;apply Hg (fun fr σ'=>σ'=σ.set b (.rows 1 (rw' en d0) false cap)∧fr 0=slv b n cap∧fr 1=int a∧fr 4=fnv g∧fr 12=int (a+1:Nat)∧fr 13=int (e-1:Nat))
 case h1=>exact fun key=>key _ _ ⟨rfl,rfl,rfl,rfl,rfl,rfl⟩
 rintro fr σ' ⟨rfl,f0,f1,f4,f12,f13⟩;obtain⟨i0,hi0⟩:∃i0,i0=a+1:=⟨_,rfl⟩;obtain⟨j0,hj0⟩:∃j0,j0=e-1:=⟨_,rfl⟩;rw[←hi0]at f12;rw[←hj0]at f13;refine Fy (fun fr σ'=>σ'=σ.set b (.rows 1 (rw' en d0) false cap)∧∃i2:Nat,i0≤i2∧(i2≤i0∨i2≤j0+1)∧scanUp (fun x=>ltc cf x d0[a]!) d0 j0 i0=i2∧fr 0=slv b n cap∧fr 1=int a∧fr 4=fnv g∧fr 12=int i2∧fr 13=int j0) ?_ ?_
 ·simp only[go_sem,Aa]
  refine⟨fun m fr σ'=>∃i2:Nat,m=j0+1-i2∧i0≤i2∧(i2≤i0∨i2≤j0+1)∧scanUp (fun x=>ltc cf x d0[a]!) d0 j0 i2=scanUp (fun x=>ltc cf x d0[a]!) d0 j0 i0∧σ'=σ.set b (.rows 1 (rw' en d0) false cap)∧fr 0=slv b n cap∧fr 1=int a∧fr 4=fnv g∧fr 12=int i2∧fr 13=int j0,⟨_,i0,rfl,by omega,by omega,rfl,rfl,f0,f1,f4,f12,f13⟩,?_⟩;clear f0 f1 f4 f12 f13;rintro m fr σ' ⟨i2,rfl,h1,h2,hJ,rfl,f0,f1,f4,f12,f13⟩;rw[Mz]at hJ;simp only[go_sem];refine Ae [.rd 0 false,.rd 1 false,.rd 2 false,.rd 3 false,.rd 4 false,.rd 5 false,.rd 6 false,.rd 7 false,.rd 8 true,.rd 9 false,.rd 10 false,.rd 11 false,.rd 12 true,.ef 13 [],.rd 14 false,.rd 15 false] ?_;by_cases g1:(i2:Int)≤(j0:Nat)
  ·have q1:=Aj (en:=en) (d:=d0) (j:=i2) (by omega)
   have q2:=Aj (en:=en) (d:=d0) (j:=a) (by omega);simp only[go_sem,f0,f1,f4,f12,f13,decide_eq_true g1,Ab,q1,q2,Aw hl];refine⟨by omega,by omega,by omega,by omega,(hC _ (Ap hn hs) _ _).mono ?_⟩;rintro _ σ1 ⟨rfl,rfl⟩;simp only[go_sem];refine aIf_by (fun g2=>?_) (fun g2=>?_)
   ·rw[if_pos ⟨by omega,by unfold ltc;exact decide_eq_true g2⟩]at hJ
    simp only[go_sem,Aa,f0,f1,f4,f12,f13,Ai (show i2<9223372036854775807 by omega)];exact⟨j0+1-(i2+1),by omega,i2+1,rfl,by omega,by omega,hJ,rfl⟩
   ·rw[if_neg (fun h=>g2 (of_decide_eq_true h.2))]at hJ
    simp only[go_sem];exact⟨i2,h1,h2,hJ.symm,f0,f1,f4,f12,f13⟩
  ·rw[if_neg (fun h=>g1 (by omega))]at hJ
   simp only[go_sem,f12,f13,decide_eq_false g1];exact⟨i2,h1,h2,hJ.symm,f0,f1,f4,rfl⟩
 clear f0 f1 f4 f12 f13;rintro fr σ' ⟨rfl,i2,h1,h2,hi3,f0,f1,f4,f12,f13⟩;simp only[go_sem];refine Fy (fun fr σ'=>σ'=σ.set b (.rows 1 (rw' en d0) false cap)∧∃j2:Nat,j2≤j0∧scanDown (fun x=>!ltc cf x d0[a]!) d0 i2 j0=j2∧(i2≤j0→i2≤j2+1)∧(j0<i2→j2=j0)∧fr 0=slv b n cap∧fr 1=int a∧fr 4=fnv g∧fr 12=int i2∧fr 13=int j2) ?_ ?_
 ·simp only[go_sem,Aa]
  refine⟨fun m fr σ'=>∃j2:Nat,m=j2∧j2≤j0∧scanDown (fun x=>!ltc cf x d0[a]!) d0 i2 j2=scanDown (fun x=>!ltc cf x d0[a]!) d0 i2 j0∧(i2≤j0→i2≤j2+1)∧(j0<i2→j2=j0)∧σ'=σ.set b (.rows 1 (rw' en d0) false cap)∧fr 0=slv b n cap∧fr 1=int a∧fr 4=fnv g∧fr 12=int i2∧fr 13=int j2,⟨_,j0,rfl,by omega,rfl,by omega,by omega,rfl,f0,f1,f4,f12,f13⟩,?_⟩;clear f0 f1 f4 f12 f13;rintro m fr σ' ⟨j2,hm,k1,hJ,k2,k3,rfl,f0,f1,f4,f12,f13⟩;subst hm;rw[My (by omega)]at hJ;simp only[go_sem];refine Ae [.rd 0 false,.rd 1 false,.rd 2 false,.rd 3 false,.rd 4 false,.rd 5 false,.rd 6 false,.rd 7 false,.rd 8 true,.rd 9 false,.rd 10 false,.rd 11 false,.rd 12 true,.ef 13 [],.rd 14 false,.rd 15 false,.rd 16 false] ?_;by_cases g1:(i2:Int)≤m
  ·have q1:=Aj (en:=en) (d:=d0) (j:=m) (by omega)
   have q2:=Aj (en:=en) (d:=d0) (j:=a) (by omega);have w2:IntKind.i64.wrap ((m:Int)-1)=((m-1:Nat):Int):=by rw[Ah (by omega)];omega
   simp only[go_sem,f0,f1,f4,f12,f13,decide_eq_true g1,Ab,q1,q2,Aw hl];refine⟨by omega,by omega,by omega,by omega,(hC _ (Ap hn hs) _ _).mono ?_⟩;rintro _ σ1 ⟨rfl,rfl⟩;simp only[go_sem];refine aIf_by (fun g2=>?_) (fun g2=>?_)
   ·rw[if_neg (by unfold ltc;rw[decide_eq_true g2];simp)]at hJ
    simp only[go_sem];exact⟨m,k1,hJ.symm,k2,k3,f0,f1,f4,f12,f13⟩
   ·rw[if_pos ⟨by omega,by unfold ltc;rw[decide_eq_false g2];rfl⟩]at hJ
    simp only[go_sem,Aa,f0,f1,f4,f12,f13,w2];exact⟨m-1,by omega,m-1,rfl,by omega,hJ,by omega,by omega,rfl⟩
  ·rw[if_neg (fun h=>g1 (by omega))]at hJ
   simp only[go_sem,f12,f13,decide_eq_false g1];exact⟨m,k1,hJ.symm,k2,k3,f0,f1,f4,rfl⟩
 clear f0 f1 f4 f12 f13;rintro fr σ' ⟨rfl,j2,k1,hj3,k2,k3,f0,f1,f4,f12,f13⟩;rw[hi0,hj0]at hi3;rw[hj0]at hj3;simp only[go_sem,f12,f13];have q1:=Aj (en:=en) (d:=d0) (j:=a) (by omega);refine aIf_by (fun g1=>?_) (fun g1=>?_)
 ·rw[Vw hd0 hi3 hj3 (by omega)]
  have q2:=Aj (en:=en) (d:=d0) (j:=j2) (by omega);have q3:=Aj (en:=en) (d:=d0.setIfInBounds j2 d0[a]!) (j:=a) (by rw[Array.size_setIfInBounds];omega);simp only[go_sem];refine Ae [.rd 0 false,.rd 1 false,.rd 2 false,.rd 3 false,.rd 4 false,.rd 5 false,.rd 6 false,.rd 7 true,.rd 8 false,.rd 9 false,.rd 10 false,.rd 11 true,.rd 12 false,.ef 13 [],.rd 14 false,.ef 15 []] ?_;simp only[go_sem,f0,f1,f4,f12,f13,Ab,q1,q2,Aw hl,Cc hl,hl,ho,hce,Bz,q3,Array.size_setIfInBounds];refine⟨by omega,by omega,by omega,by omega,by omega,by omega,by omega,by omega,?_⟩;exact Ad (r:=.tup [int j2,boo true]) rfl ⟨rfl,rfl⟩
 ·rw[Ah7 hd0 hi3 hj3 (by omega)]
  have w2:IntKind.i64.wrap ((j2:Int)-1)=((j2-1:Nat):Int):=by rw[Ah (by omega)];omega
  have q1:=Aj (en:=en) (d:=d0) (j:=i2) (by omega);have q2:=Aj (en:=en) (d:=d0) (j:=j2) (by omega);have q3:=Aj (en:=en) (d:=d0.setIfInBounds i2 d0[j2]!) (j:=j2) (by rw[Array.size_setIfInBounds];omega);simp only[go_sem];refine Ae [.rd 0 false,.rd 1 false,.rd 2 false,.rd 3 false,.rd 4 false,.rd 5 false,.rd 6 false,.rd 7 true,.rd 8 false,.rd 9 false,.rd 10 false,.rd 11 true,.rd 12 false,.ef 13 [],.rd 14 false,.ef 15 []] ?_;simp only[go_sem,Aa,f0,f1,f4,f12,f13,Ab,q1,q2,Aw hl,Cc hl,hl,ho,hce,Bz,q3,Array.size_setIfInBounds,w2,Ai (show i2<9223372036854775807 by omega)];refine⟨by omega,by omega,by omega,by omega,by omega,by omega,by omega,by omega,?_⟩;clear q1 q2 q3;obtain⟨R,hR⟩:∃R,R=partLoop (ltc cf) a (i2+1) (j2-1) (swp d0 i2 j2):=⟨_,rfl⟩;rw[←hR];refine⟨fun m fr σ'=>∃(i j:Nat) (d':Array α),m=j+1-i∧a<i∧i≤e∧j<e∧i≤j+2∧d'.size=n∧partLoop (ltc cf) a i j d'=R∧σ'=σ.set b (.rows 1 (rw' en d') false cap)∧fr 0=slv b n cap∧fr 1=int a∧fr 4=fnv g∧fr 12=int i∧fr 13=int j,⟨_,i2+1,j2-1,swp d0 i2 j2,rfl,by omega,by omega,by omega,by omega,by rw[A8];exact hz0,hR.symm,rfl,f0,f1,f4,rfl,rfl⟩,?_⟩;clear f0 f1 f4 f12 f13 hi3 hj3 k2 k3 h1 h2 k1 w2 g1 i2 j2 hR;rintro m fr σ' ⟨i,j,dd,rfl,hi1,hi2,hj1,hij,hdd,hI,rfl,f0,f1,f4,f12,f13⟩;simp only[go_sem];rw[Aa];simp only[go_sem];refine Fy (fun fr σ'=>σ'=σ.set b (.rows 1 (rw' en dd) false cap)∧∃i2:Nat,i≤i2∧(i2≤i∨i2≤j+1)∧scanUp (fun x=>ltc cf x dd[a]!) dd j i=i2∧fr 0=slv b n cap∧fr 1=int a∧fr 4=fnv g∧fr 12=int i2∧fr 13=int j) ?_ ?_
  ·simp only[go_sem,Aa]
   refine⟨fun m fr σ'=>∃i2:Nat,m=j+1-i2∧i≤i2∧(i2≤i∨i2≤j+1)∧scanUp (fun x=>ltc cf x dd[a]!) dd j i2=scanUp (fun x=>ltc cf x dd[a]!) dd j i∧σ'=σ.set b (.rows 1 (rw' en dd) false cap)∧fr 0=slv b n cap∧fr 1=int a∧fr 4=fnv g∧fr 12=int i2∧fr 13=int j,⟨_,i,rfl,by omega,by omega,rfl,rfl,f0,f1,f4,f12,f13⟩,?_⟩;clear f0 f1 f4 f12 f13;rintro m fr σ' ⟨i2,rfl,h1,h2,hJ,rfl,f0,f1,f4,f12,f13⟩;rw[Mz]at hJ;simp only[go_sem];refine Ae [.rd 0 false,.rd 1 false,.rd 2 false,.rd 3 false,.rd 4 false,.rd 5 false,.rd 6 false,.rd 7 false,.rd 8 true,.rd 9 false,.rd 10 false,.rd 11 false,.rd 12 true,.ef 13 [],.rd 14 false,.rd 15 false] ?_;by_cases g1:(i2:Int)≤(j:Nat)
   ·have q1:=Aj (en:=en) (d:=dd) (j:=i2) (by omega)
    have q2:=Aj (en:=en) (d:=dd) (j:=a) (by omega);simp only[go_sem,f0,f1,f4,f12,f13,decide_eq_true g1,Ab,q1,q2,Aw hl];refine⟨by omega,by omega,by omega,by omega,(hC _ (Ap hn hs) _ _).mono ?_⟩;rintro _ σ1 ⟨rfl,rfl⟩;simp only[go_sem];refine aIf_by (fun g2=>?_) (fun g2=>?_)
    ·rw[if_pos ⟨by omega,by unfold ltc;exact decide_eq_true g2⟩]at hJ
     simp only[go_sem,Aa,f0,f1,f4,f12,f13,Ai (show i2<9223372036854775807 by omega)];exact⟨j+1-(i2+1),by omega,i2+1,rfl,by omega,by omega,hJ,rfl⟩
    ·rw[if_neg (fun h=>g2 (of_decide_eq_true h.2))]at hJ
     simp only[go_sem];exact⟨i2,h1,h2,hJ.symm,f0,f1,f4,f12,f13⟩
   ·rw[if_neg (fun h=>g1 (by omega))]at hJ
    simp only[go_sem,f12,f13,decide_eq_false g1];exact⟨i2,h1,h2,hJ.symm,f0,f1,f4,rfl⟩
  clear f0 f1 f4 f12 f13;rintro fr σ' ⟨rfl,i2,h1,h2,hi3,f0,f1,f4,f12,f13⟩;simp only[go_sem];refine Fy (fun fr σ'=>σ'=σ.set b (.rows 1 (rw' en dd) false cap)∧∃j2:Nat,j2≤j∧scanDown (fun x=>!ltc cf x dd[a]!) dd i2 j=j2∧(i2≤j→i2≤j2+1)∧(j<i2→j2=j)∧fr 0=slv b n cap∧fr 1=int a∧fr 4=fnv g∧fr 12=int i2∧fr 13=int j2) ?_ ?_
  ·simp only[go_sem,Aa]
   refine⟨fun m fr σ'=>∃j2:Nat,m=j2∧j2≤j∧scanDown (fun x=>!ltc cf x dd[a]!) dd i2 j2=scanDown (fun x=>!ltc cf x dd[a]!) dd i2 j∧(i2≤j→i2≤j2+1)∧(j<i2→j2=j)∧σ'=σ.set b (.rows 1 (rw' en dd) false cap)∧fr 0=slv b n cap∧fr 1=int a∧fr 4=fnv g∧fr 12=int i2∧fr 13=int j2,⟨_,j,rfl,by omega,rfl,by omega,by omega,rfl,f0,f1,f4,f12,f13⟩,?_⟩;clear f0 f1 f4 f12 f13;rintro m fr σ' ⟨j2,hm,k1,hJ,k2,k3,rfl,f0,f1,f4,f12,f13⟩;subst hm;rw[My (by omega)]at hJ;simp only[go_sem];refine Ae [.rd 0 false,.rd 1 false,.rd 2 false,.rd 3 false,.rd 4 false,.rd 5 false,.rd 6 false,.rd 7 false,.rd 8 true,.rd 9 false,.rd 10 false,.rd 11 false,.rd 12 true,.ef 13 [],.rd 14 false,.rd 15 false,.rd 16 false] ?_;by_cases g1:(i2:Int)≤m
   ·have q1:=Aj (en:=en) (d:=dd) (j:=m) (by omega)
    have q2:=Aj (en:=en) (d:=dd) (j:=a) (by omega);have w2:IntKind.i64.wrap ((m:Int)-1)=((m-1:Nat):Int):=by rw[Ah (by omega)];omega
    simp only[go_sem,f0,f1,f4,f12,f13,decide_eq_true g1,Ab,q1,q2,Aw hl];refine⟨by omega,by omega,by omega,by omega,(hC _ (Ap hn hs) _ _).mono ?_⟩;rintro _ σ1 ⟨rfl,rfl⟩;simp only[go_sem];refine aIf_by (fun g2=>?_) (fun g2=>?_)
    ·rw[if_neg (by unfold ltc;rw[decide_eq_true g2];simp)]at hJ
     simp only[go_sem];exact⟨m,k1,hJ.symm,k2,k3,f0,f1,f4,f12,f13⟩
    ·rw[if_pos ⟨by omega,by unfold ltc;rw[decide_eq_false g2];rfl⟩]at hJ
     simp only[go_sem,Aa,f0,f1,f4,f12,f13,w2];exact⟨m-1,by omega,m-1,rfl,by omega,hJ,by omega,by omega,rfl⟩
   ·rw[if_neg (fun h=>g1 (by omega))]at hJ
    simp only[go_sem,f12,f13,decide_eq_false g1];exact⟨m,k1,hJ.symm,k2,k3,f0,f1,f4,rfl⟩
  clear f0 f1 f4 f12 f13;rintro fr σ' ⟨rfl,j2,k1,hj3,k2,k3,f0,f1,f4,f12,f13⟩;simp only[go_sem,f12,f13];refine aIf_by (fun g1=>?_) (fun g1=>?_)
  ·rw[Vv hi3 hj3 (by omega)]at hI
   rw[←hI];have q1:=Aj (en:=en) (d:=dd) (j:=a) (by omega);have q2:=Aj (en:=en) (d:=dd) (j:=j2) (by omega);have q3:=Aj (en:=en) (d:=dd.setIfInBounds j2 dd[a]!) (j:=a) (by rw[Array.size_setIfInBounds];omega);simp only[go_sem];refine Ae [.rd 0 false,.rd 1 false,.rd 2 false,.rd 3 false,.rd 4 false,.rd 5 false,.rd 6 false,.rd 7 true,.rd 8 false,.rd 9 false,.rd 10 false,.rd 11 true,.rd 12 false,.ef 13 [],.rd 14 false,.ef 15 []] ?_;simp only[go_sem,f0,f1,f4,f12,f13,Ab,q1,q2,Aw hl,Cc hl,hl,ho,hce,Bz,q3,Array.size_setIfInBounds];refine⟨by omega,by omega,by omega,by omega,by omega,by omega,by omega,by omega,?_⟩;exact Ad (r:=.tup [int j2,boo false]) rfl ⟨rfl,rfl⟩
  ·rw[Ah6 hi3 hj3 (by omega) h1 k1]at hI
   have w2:IntKind.i64.wrap ((j2:Int)-1)=((j2-1:Nat):Int):=by rw[Ah (by omega)];omega
   have q1:=Aj (en:=en) (d:=dd) (j:=i2) (by omega);have q2:=Aj (en:=en) (d:=dd) (j:=j2) (by omega);have q3:=Aj (en:=en) (d:=dd.setIfInBounds i2 dd[j2]!) (j:=j2) (by rw[Array.size_setIfInBounds];omega);simp only[go_sem];refine Ae [.rd 0 false,.rd 1 false,.rd 2 false,.rd 3 false,.rd 4 false,.rd 5 false,.rd 6 false,.rd 7 true,.rd 8 false,.rd 9 false,.rd 10 false,.rd 11 true,.rd 12 false,.ef 13 [],.rd 14 false,.ef 15 []] ?_;simp only[go_sem,f0,f1,f4,f12,f13,Ab,q1,q2,Aw hl,Cc hl,hl,ho,hce,Bz,q3,Array.size_setIfInBounds,w2,Ai (show i2<9223372036854775807 by omega)];exact⟨by omega,by omega,by omega,by omega,by omega,by omega,by omega,by omega,j2-1+1-(i2+1),by omega,i2+1,j2-1,swp dd i2 j2,rfl,by omega,by omega,by omega,by omega,by rw[A8];exact hdd,hI,rfl,rfl,rfl⟩
end
section
variable{α:Type}[Inhabited α]{en:α→List AV}(hl:∀x,(en x).length=1)(ho:∀x,(en x).all AV.one=true)(hce:∀x,((en x).getD 0 (.v undef)).cells=en x){cf:α→α→Int}{g:Nat}{β:St}(hC:∀σ',(∀x o,β x=some o→σ' x=some o)→∀x y,AT Tryz.prog g [(en x).getD 0 (.v undef),(en y).getD 0 (.v undef)] σ' fun r σ''=>r=int (cf x y)∧σ''=σ')
variable{b cap:Nat}(hn:β b=none){n:Nat}(hsz:n≤1000000000000)(hS:SWO (ltc cf))
include hl ho hce hC hn hsz hS
theorem Aai:∀(w:Nat) {σ:St} {d:Array α} {a e limit:Nat},e-a≤w→σ b=some (.rows 1 (rw' en d) false cap)→(∀x o,β x=some o→σ x=some o)→d.size=n→a≤e→e≤n→limit≤1000→Below (ltc cf) a e d→
  AT Tryz.prog 161 [slv b n cap,int a,int e,int limit,fnv g] σ fun _ σ'=>∃d',σ'=σ.set b (.rows 1 (rw' en d') false cap)∧PermIn a e d d'∧SortedIn (ltc cf) a e d':=by
 intro w
 induction w using Nat.strongRecOn with
 |ind w ih=>
 intro σ d a e limit hw hb hs hd hae he hlim hB;refine AT.ob Tryz.func161 rfl ?_;simp only[go_sem,Aa];refine⟨fun m fr σ'=>∃(p q lim:Nat) (wb wp:Bool) (d':Array α),m=q-p∧p≤q∧q≤n∧q-p≤w∧lim≤1000∧d'.size=n∧Below (ltc cf) p q d'∧(∀R,PermIn p q d' R→SortedIn (ltc cf) p q R→PermIn a e d R∧SortedIn (ltc cf) a e R)∧σ'=σ.set b (.rows 1 (rw' en d') false cap)∧fr 0=slv b n cap∧fr 1=int p∧fr 2=int q∧fr 3=int lim∧fr 4=fnv g∧fr 10=boo wb∧fr 11=boo wp,⟨_,a,e,limit,true,true,d,rfl,hae,he,hw,hlim,hd,hB,fun R h1 h2=>⟨h1,h2⟩,(Bp hb).symm,rfl,rfl,rfl,rfl,rfl,rfl,rfl⟩,?_⟩;rintro m fr σ' ⟨p,q,lim,wb,wp,dd,rfl,hpq,hq,hw2,hlim2,hdd,hB2,hF,rfl,f0,f1,f2,f3,f4,f10,f11⟩;have w1:IntKind.i64.wrap ((q:Int)-p)=((q-p:Nat):Int):=by rw[Ah (by omega)];omega
 simp only[go_sem];rw[Aa];simp only[go_sem,f1,f2,w1];refine aIf_by (fun g1=>?_) (fun g1=>?_)
 ·simp only[go_sem,f0,f1,f2,f4]
  refine(Hx hl ho hce hC (σ:=σ.set b (.rows 1 (rw' en dd) false cap)) (d:=dd) Ab hn (Ap hn hs) hdd hsz (a:=p) (e:=q) hq (by omega)).mono ?_;rintro _ σ1 rfl;simp only[go_sem];have h:=insertionSort_holds (lt:=ltc cf) hS dd p q hpq (by omega);exact Ad (r:=.tup []) rfl ⟨_,rfl,hF _ h.1 h.2⟩
 simp only[go_sem,f3];refine aIf_by (fun g2=>?_) (fun g2=>?_)
 ·simp only[go_sem,f0,f1,f2,f4]
  refine(Vk hl ho hce hC (σ:=σ.set b (.rows 1 (rw' en dd) false cap)) (d:=dd) Ab hn (Ap hn hs) hdd hsz (a:=p) (e:=q) hq (by omega)).mono ?_;rintro _ σ1 rfl;simp only[go_sem];have h:=heapSort_holds (lt:=ltc cf) hS dd p q hpq (by omega);exact Ad (r:=.tup []) rfl ⟨_,rfl,hF _ h.1 h.2⟩
 simp only[go_sem,f10];refine Tg (fun fr σ'=>∃(lim':Nat) (d1:Array α),lim'≤1000∧PermIn p q dd d1∧σ'=σ.set b (.rows 1 (rw' en d1) false cap)∧fr 0=slv b n cap∧fr 1=int p∧fr 2=int q∧fr 3=int lim'∧fr 4=fnv g∧fr 10=boo wb∧fr 11=boo wp∧fr 12=int (q-p:Nat)) (fun g3=>?_) (fun g3=>?_) ?_
 ·simp only[go_sem]
  exact⟨lim,dd,hlim2,permIn_refl dd p q,rfl,f0,f1,f2,f3,f4,f10,f11⟩
 ·have w2:IntKind.i64.wrap ((lim:Int)-1)=((lim-1:Nat):Int):=by rw[Ah (by omega)];omega
  simp only[go_sem,f0,f1,f2,f4];refine(Q6 hl ho hce (σ:=σ.set b (.rows 1 (rw' en dd) false cap)) (d:=dd) Ab hdd hsz (a:=p) (e:=q) hq (by omega)).mono ?_;rintro _ σ1 rfl;simp only[go_sem,f0,f1,f2,f3,f4,f10,f11,w2];refine⟨lim-1,breakPatterns dd p q,by omega,breakPatterns_holds dd p q hpq (by omega),rfl,rfl⟩
 clear f0 f1 f2 f3 f4 f10 f11 fr hlim2;rintro fr σ' ⟨lim,d1,hlim2,hP1,rfl,f0,f1,f2,f3,f4,f10,f11,f12⟩;have hz1:d1.size=n:=by rw[hP1.1];exact hdd
 have hB1:Below (ltc cf) p q d1:=hB2.perm (by omega) hP1;have hc0:=choosePivot_holds (ltc cf) d1 p q (by omega);simp only[go_sem,f0,f1,f2,f4];refine(Se hl ho hce hC (σ:=σ.set b (.rows 1 (rw' en d1) false cap)) (d:=d1) Ab hn (Ap hn hs) hz1 hsz (a:=p) (e:=q) hq (by omega)).mono ?_;rintro _ _ ⟨rfl,rfl⟩;generalize choosePivot (ltc cf) d1 p q=c at hc0⊢;obtain⟨c1,c2⟩:=c;simp only[go_sem,f0,f1,f2,f4];refine Co (fun fr σ'=>∃(pv:Nat) (h:Int) (d2:Array α),p≤pv∧pv<q∧PermIn p q d1 d2∧σ'=σ.set b (.rows 1 (rw' en d2) false cap)∧fr 0=slv b n cap∧fr 1=int p∧fr 2=int q∧fr 3=int lim∧fr 4=fnv g∧fr 10=boo wb∧fr 11=boo wp∧fr 12=int (q-p:Nat)∧fr 13=int pv∧fr 14=int h) (fun g3=>?_) (fun g3=>?_) ?_
 ·simp only[go_sem,f0,f1,f2,f4]
  refine(Aas hl ho hce (σ:=σ.set b (.rows 1 (rw' en d1) false cap)) (d:=d1) Ab hz1 hsz (a:=p) (e:=q) hq (by omega)).mono ?_;rintro _ σ1 rfl;have hc1:p≤c1:=hc0.1;have hc2:c1<q:=hc0.2;have w3:IntKind.i64.wrap (IntKind.i64.wrap ((q:Int)-1)-IntKind.i64.wrap ((c1:Int)-p))=((q-1-(c1-p):Nat):Int):=by
   rw[Ah (x:=(q:Int)-1) (by omega),Ah (x:=(c1:Int)-p) (by omega),Ah (by omega)];omega
  simp only[go_sem,f0,f1,f2,f3,f4,f10,f11,f12,w3];exact⟨q-1-(c1-p),1,reverseRange d1 p q,by omega,by omega,reverseRange_holds d1 p q hpq (by omega),rfl,rfl,rfl⟩
 ·simp only[go_sem]
  exact⟨c1,Kn c2,d1,hc0.1,hc0.2,permIn_refl d1 p q,rfl,f0,f1,f2,f3,f4,f10,f11,f12,rfl,rfl⟩
 clear f0 f1 f2 f3 f4 f10 f11 f12 fr hc0;rintro fr σ' ⟨pv,h,d2,hp1,hp2,hP2,rfl,f0,f1,f2,f3,f4,f10,f11,f12,f13,f14⟩;have hz2:d2.size=n:=by rw[hP2.1];exact hz1
 have hB3:Below (ltc cf) p q d2:=hB1.perm (by omega) hP2;apply Hg (fun fr σ'=>∃(d3:Array α),PermIn p q d2 d3∧σ'=σ.set b (.rows 1 (rw' en d3) false cap)∧fr 0=slv b n cap∧fr 1=int p∧fr 2=int q∧fr 3=int lim∧fr 4=fnv g∧fr 10=boo wb∧fr 11=boo wp∧fr 12=int (q-p:Nat)∧fr 13=int pv)
 case h1=>
  intro key;cases wb
  ·simp only[go_sem,f10]
   refine key _ _ ?_;exact⟨d2,permIn_refl d2 p q,rfl,f0,f1,f2,f3,f4,f10,f11,f12,f13⟩
  ·cases wp
   ·simp only[go_sem,f10,f11]
    refine key _ _ ?_;exact⟨d2,permIn_refl d2 p q,rfl,f0,f1,f2,f3,f4,f10,f11,f12,f13⟩
   ·simp only[go_sem,f10,f11,f14]
    refine aIf_by (fun g4=>?_) (fun g4=>?_)
    ·simp only[go_sem,f0,f1,f2,f4]
     refine(Mv hl ho hce hC (σ:=σ.set b (.rows 1 (rw' en d2) false cap)) (d:=d2) Ab hn (Ap hn hs) hz2 hsz (a:=p) (e:=q) hq (by omega)).mono ?_;rintro _ _ ⟨rfl,rfl⟩;have hpi:=partialInsertionSort_holds (lt:=ltc cf) hS d2 p q (by omega) (by omega) hB3;simp only[go_sem];refine aIf_bool (fun g5=>?_) (fun g5=>?_)
     ·simp only[go_sem]
      exact Ad (r:=.tup []) rfl ⟨_,rfl,hF _ (permIn_trans _ _ _ p q (permIn_trans _ _ _ p q hP1 hP2) hpi.1) (hpi.2 g5)⟩
     ·simp only[go_sem]
      refine key _ _ ?_;exact⟨_,hpi.1,rfl,f0,f1,f2,f3,f4,f10,f11,f12,f13⟩
    ·simp only[go_sem]
     refine key _ _ ?_;exact⟨d2,permIn_refl d2 p q,rfl,f0,f1,f2,f3,f4,f10,f11,f12,f13⟩
 case h2=>
  clear f0 f1 f2 f3 f4 f10 f11 f12 f13 f14 fr;rintro fr σ' ⟨d3,hP3,rfl,f0,f1,f2,f3,f4,f10,f11,f12,f13⟩;have hz3:d3.size=n:=by rw[hP3.1];exact hz2
  have hB4:Below (ltc cf) p q d3:=hB3.perm (by omega) hP3;have hF3:∀R,PermIn p q d3 R→SortedIn (ltc cf) p q R→PermIn a e d R∧SortedIn (ltc cf) a e R:=fun R h1 h2=>hF R (permIn_trans _ _ _ p q (permIn_trans _ _ _ p q (permIn_trans _ _ _ p q hP1 hP2) hP3) h1) h2;clear hF hP1 hP2 hP3 hB1 hB2 hB3 hz1 hz2 hdd d1 d2;refine Ae [.rd 0 false,.rd 1 false,.rd 2 false,.rd 3 false,.rd 4 false,.rd 5 false,.rd 6 false,.rd 7 false,.rd 8 true,.rd 9 false,.rd 10 false,.rd 11 false,.rd 12 true,.ef 13 [],.rd 14 false,.rd 15 false,.rd 16 false] ?_;by_cases g6:(0:Int)<p
  ·have w5:IntKind.i64.wrap ((p:Int)-1)=((p-1:Nat):Int):=by rw[Ah (by omega)];omega
   have q1:=Aj (en:=en) (d:=d3) (j:=p-1) (by omega);have q2:=Aj (en:=en) (d:=d3) (j:=pv) (by omega);simp only[go_sem,f0,f1,f4,f13,decide_eq_true g6,w5,Ab,q1,q2,Aw hl];refine⟨by omega,by omega,by omega,by omega,(hC _ (Ap hn hs) _ _).mono ?_⟩;rintro _ σ1 ⟨rfl,rfl⟩;simp only[go_sem];refine aIf_by (fun g7=>?_) (fun g7=>?_)
   ·simp only[go_sem,f0,f1,f2,f4,f13]
    refine(N9 hl ho hce hC (σ:=σ.set b (.rows 1 (rw' en d3) false cap)) (d:=d3) Ab hn (Ap hn hs) hz3 hsz (a:=p) (e:=q) (pv:=pv) hq (by omega) (by omega)).mono ?_;rintro _ _ ⟨rfl,rfl⟩;generalize hx:partition (ltc cf) d3 p q pv=x;obtain⟨mid,ap,d4⟩:=x;obtain⟨g7,g8,hs4,hBa,hBr,hleft,hright⟩:=round_part hS (partition_holds (ltc cf)) hp1 hp2 (by omega) hB4 hx;have v1:IntKind.i64.wrap ((mid:Int)-p)=((mid-p:Nat):Int):=by rw[Ah (by omega)];omega
    have v2:IntKind.i64.wrap ((q:Int)-mid)=((q-mid:Nat):Int):=by rw[Ah (by omega)];omega
    have v3:IntKind.i64.wrap (((q-p:Nat):Int).tdiv 8)=(((q-p)/8:Nat):Int):=by rw[Int.tdiv_eq_ediv_of_nonneg (by omega),Ah (by omega)];omega
    simp only[go_sem,f1,f2,f12,v1,v2,v3];refine aIf_by (fun g9=>?_) (fun g9=>?_)
    ·simp only[go_sem,f0,f1,f2,f3,f4]
     refine(ih (mid-p) (by omega) (σ:=σ.set b (.rows 1 (rw' en d4) false cap)) (d:=d4) (a:=p) (e:=mid) (limit:=lim) (Nat.le_refl _) Ab (Ap hn hs) (by omega) g7 (by omega) hlim2 hBa).mono ?_;rintro _ _ ⟨d5,rfl,l1,l2⟩;obtain⟨hBL,hfin⟩:=hleft _ l1 l2;simp only[go_sem,f0,f2,f3,f4,Ai (show mid<9223372036854775807 by omega)];exact⟨q-(mid+1),by omega,mid+1,q,lim,decide ((((q-p)/8:Nat):Int)≤((mid-p:Nat):Int)),ap,d5,rfl,by omega,by omega,by omega,hlim2,by rw[l1.1];omega,hBL,fun R h1 h2=>(fun hh=>hF3 R hh.1 hh.2) (hfin R h1 h2),rfl,rfl,rfl,rfl,rfl,rfl⟩
    ·simp only[go_sem,f0,f1,f2,f3,f4,Ai (show mid<9223372036854775807 by omega)]
     refine(ih (q-(mid+1)) (by omega) (σ:=σ.set b (.rows 1 (rw' en d4) false cap)) (d:=d4) (a:=mid+1) (e:=q) (limit:=lim) (Nat.le_refl _) Ab (Ap hn hs) (by omega) (by omega) (by omega) hlim2 hBr).mono ?_;rintro _ _ ⟨d5,rfl,l1,l2⟩;obtain⟨hBL,hfin⟩:=hright _ l1 l2;simp only[go_sem,f0,f1,f3,f4];exact⟨mid-p,by omega,p,mid,lim,decide ((((q-p)/8:Nat):Int)≤((q-mid:Nat):Int)),ap,d5,rfl,by omega,by omega,by omega,hlim2,by rw[l1.1];omega,hBL,fun R h1 h2=>(fun hh=>hF3 R hh.1 hh.2) (hfin R h1 h2),rfl,rfl,rfl,rfl,rfl,rfl⟩
   ·simp only[go_sem,f0,f1,f2,f4,f13]
    refine(Pr hl ho hce hC (σ:=σ.set b (.rows 1 (rw' en d3) false cap)) (d:=d3) Ab hn (Ap hn hs) hz3 hsz (a:=p) (e:=q) (pv:=pv) hq (by omega) (by omega)).mono ?_;rintro _ _ ⟨rfl,rfl⟩;generalize hx:partitionEqual (ltc cf) d3 p q pv=x;obtain⟨mid,d4⟩:=x;obtain⟨g8,g9,hs4,hBr,hfin⟩:=round_eq hS (partitionEqual_holds (ltc cf)) (by omega) hp1 hp2 (by omega) hB4 (by unfold ltc;exact decide_eq_false g7) hx;simp only[go_sem,f0,f2,f3,f4,f10,f11];exact⟨q-mid,by omega,mid,q,lim,wb,wp,d4,rfl,by omega,by omega,by omega,hlim2,by omega,hBr,fun R h1 h2=>(fun hh=>hF3 R hh.1 hh.2) (hfin R h1 h2),rfl,rfl,rfl,rfl,rfl,rfl⟩
  ·simp only[go_sem,f1,decide_eq_false g6]
   simp only[go_sem,f0,f1,f2,f4,f13];refine(N9 hl ho hce hC (σ:=σ.set b (.rows 1 (rw' en d3) false cap)) (d:=d3) Ab hn (Ap hn hs) hz3 hsz (a:=p) (e:=q) (pv:=pv) hq (by omega) (by omega)).mono ?_;rintro _ _ ⟨rfl,rfl⟩;generalize hx:partition (ltc cf) d3 p q pv=x;obtain⟨mid,ap,d4⟩:=x;obtain⟨g7,g8,hs4,hBa,hBr,hleft,hright⟩:=round_part hS (partition_holds (ltc cf)) hp1 hp2 (by omega) hB4 hx;have v1:IntKind.i64.wrap ((mid:Int)-p)=((mid-p:Nat):Int):=by rw[Ah (by omega)];omega
   have v2:IntKind.i64.wrap ((q:Int)-mid)=((q-mid:Nat):Int):=by rw[Ah (by omega)];omega
   have v3:IntKind.i64.wrap (((q-p:Nat):Int).tdiv 8)=(((q-p)/8:Nat):Int):=by rw[Int.tdiv_eq_ediv_of_nonneg (by omega),Ah (by omega)];omega
   simp only[go_sem,f1,f2,f12,v1,v2,v3];refine aIf_by (fun g9=>?_) (fun g9=>?_)
   ·simp only[go_sem,f0,f1,f2,f3,f4]
    refine(ih (mid-p) (by omega) (σ:=σ.set b (.rows 1 (rw' en d4) false cap)) (d:=d4) (a:=p) (e:=mid) (limit:=lim) (Nat.le_refl _) Ab (Ap hn hs) (by omega) g7 (by omega) hlim2 hBa).mono ?_;rintro _ _ ⟨d5,rfl,l1,l2⟩;obtain⟨hBL,hfin⟩:=hleft _ l1 l2;simp only[go_sem,f0,f2,f3,f4,Ai (show mid<9223372036854775807 by omega)];exact⟨q-(mid+1),by omega,mid+1,q,lim,decide ((((q-p)/8:Nat):Int)≤((mid-p:Nat):Int)),ap,d5,rfl,by omega,by omega,by omega,hlim2,by rw[l1.1];omega,hBL,fun R h1 h2=>(fun hh=>hF3 R hh.1 hh.2) (hfin R h1 h2),rfl,rfl,rfl,rfl,rfl,rfl⟩
   ·simp only[go_sem,f0,f1,f2,f3,f4,Ai (show mid<9223372036854775807 by omega)]
    refine(ih (q-(mid+1)) (by omega) (σ:=σ.set b (.rows 1 (rw' en d4) false cap)) (d:=d4) (a:=mid+1) (e:=q) (limit:=lim) (Nat.le_refl _) Ab (Ap hn hs) (by omega) (by omega) (by omega) hlim2 hBr).mono ?_;rintro _ _ ⟨d5,rfl,l1,l2⟩;obtain⟨hBL,hfin⟩:=hright _ l1 l2;simp only[go_sem,f0,f1,f3,f4];exact⟨mid-p,by omega,p,mid,lim,decide ((((q-p)/8:Nat):Int)≤((q-mid:Nat):Int)),ap,d5,rfl,by omega,by omega,by omega,hlim2,by rw[l1.1];omega,hBL,fun R h1 h2=>(fun hh=>hF3 R hh.1 hh.2) (hfin R h1 h2),rfl,rfl,rfl,rfl,rfl,rfl⟩
theorem sort_at{σ:St}{d:Array α}(hb:σ b=some (.rows 1 (rw' en d) false cap))(hs:∀x o,β x=some o→σ x=some o)(hd:d.size=n):AT Tryz.prog 102 [slv b n cap,fnv g] σ fun _ σ'=>∃d',σ'=σ.set b (.rows 1 (rw' en d') false cap)∧d'.toList.Perm d.toList∧SortedIn (ltc cf) 0 n d':=by
 refine AT.ob Tryz.func102 rfl ?_;have w1:IntKind.u64.wrap (n:Int)=(n:Int):=by rw[J2];omega
 simp only[go_sem,w1];refine(R6 (x:=n) (by omega)).mono ?_;rintro _ σ1 ⟨rfl,rfl⟩;have hbl:=U3 (z:=n) (by omega);simp only[go_sem];refine(Aai hl ho hce hC hn hsz hS n (a:=0) (e:=n) (limit:=bitsLen n) (by omega) hb hs hd (by omega) (by omega) (by omega) (.inl rfl)).mono ?_;rintro _ _ ⟨d',rfl,h1,h2⟩;simp only[go_sem];refine Ad (r:=.tup []) rfl ⟨d',rfl,?_,h2⟩;have h3:=h1.2.2;rw[Array.extract_eq_self_of_le (by rw[h1.1];omega),Array.extract_eq_self_of_le (by omega)]at h3;exact h3
end
end Go.Proofs.YtmifmncabejffaaGreat.L
namespace Go.Proofs.YtmifmncabejffaaGreat
open Go Go.Av
theorem Ub{α γ:Type}{en:α→List AV}{f:α→γ}:∀(es:List (List AV)) (out:List γ),es.length=out.length→(∀i (h:i<out.length),∃x,es.getD i []=en x∧f x=out[i])→∃L:List α,L.map en=es∧L.map f=out
 | [],[],_,_=>⟨[],rfl,rfl⟩
 |e::es,o::out,hl,h=>by
  obtain⟨L,h1,h2⟩:=Ub (en:=en) (f:=f) es out (by simpa using hl) fun i hi=>by
   have:=h (i+1) (by simpa using hi);simpa using this
  obtain⟨x,x1,x2⟩:=h 0 (by simp);simp only[List.getD_cons_zero,List.getElem_cons_zero]at x1 x2;exact⟨x::L,by rw[List.map_cons,h1,x1],by rw[List.map_cons,h2,x2]⟩
 | [],_::_,hl,_=>by simp at hl
 |_::_,[],hl,_=>by simp at hl
theorem Ajc{l k:List Cn}(h:cnC l=cnC k):l=k:=by
 have:=congrArg (List.map fun(e:List AV)=>match e with
  | [.v (.bool b),.v (.int _ n),.v (.string s)]=>(⟨b,n,s⟩:Cn)
  |_=>⟨false,0,emp⟩) h
 have e:∀l:List Cn,(cnC l).map (fun(e:List AV)=>match e with
  | [.v (.bool b),.v (.int _ n),.v (.string s)]=>(⟨b,n,s⟩:Cn)
  |_=>⟨false,0,emp⟩)=l:=fun l=>by
  unfold cnC;rw[List.map_map]
  conv=>rhs;rw[←List.map_id l]
  rfl
 rwa[e,e]at this
theorem Anv{f g:Fa}(h:f.cs=g.cs):f=g:=by
 unfold Fa.cs at h;simp only[List.cons.injEq,AV.v.injEq,Value.string.injEq,AV.sl.injEq,true_and,and_true]at h;obtain⟨h1,h2,h3,h4⟩:=h;cases f;cases g
 simp only at h1 h2 h3 h4;rw[h1,h2,h3,Ajc h4]
theorem Acd{l k:List Fa}(h:faC l=faC k):l=k:=by
 unfold faC at h
 induction l generalizing k with
 |nil=>cases k<;>simp at h⊢
 |cons x l ih=>
  cases k with
  |nil=>simp at h
  |cons y k=>
   rw[List.map_cons,List.map_cons]at h;injection h with h1 h2;rw[Anv h1,ih h2]
@[go_sem] theorem As1(f:Fa)(v w:AV):Ay (faX f v) 3 [w]=faX f w:=rfl
def GR(σ0 σ:St)(c:Nat)(b:List Fa)(cap:Nat)(D:Nat→Prop):Prop:=
 ∃es,σ c=some (.rows 4 es false cap)∧es.length=b.length∧∀j (h:j<b.length),∃a,es.getD j []=faX b[j] a∧((a= .sl 3 (cnC b[j].ar)∧¬D j)∨(Ow 3 σ a (cnC b[j].ar)∧∀x,Own a x→σ0 x=none))
def BR(σ0 σ:St)(v:AV)(b:List Fa):Prop:=(b=[]∧(v=A0∨v= .fsl 4 []))∨∃c cap,v=slv c b.length cap∧b.length≤cap∧σ0 c=none∧GR σ0 σ c b cap fun _=>True
def PB(σ0 σ:St)(v:AV)(bods:List (List Fa)):Prop:=
 (∀x o,σ0 x=some o→σ x=some o)∧(∀x,Own v x→σ0 x=none)∧∃es,Ow 1 σ v es∧es.length=bods.length∧∀i (h:i<bods.length),∃w,es.getD i []=[w]∧BR σ0 σ w bods[i]
def JB(σ0 σ7 σ:St)(v:AV)(es:List (List AV))(D:Nat→Nat→Prop):Prop:=
 (∀x o,σ0 x=some o→σ x=some o)∧Ow 1 σ v es∧∀c b cap,σ7 c=some (.rows 4 (faC b) false cap)→σ0 c=none→GR σ0 σ c b cap (D c)
section
variable{σ0 σ7 σ1 σ2:St}{v:AV}{es7:List (List AV)}{D D':Nat→Nat→Prop}
theorem JB.weak(h:JB σ0 σ7 σ1 v es7 D)(hD:∀c (b:List Fa) cap j,σ7 c=some (.rows 4 (faC b) false cap)→j<b.length→D' c j→D c j):JB σ0 σ7 σ1 v es7 D':=by
 refine⟨h.1,h.2.1,fun c b cap h7 h0=>?_⟩;obtain⟨es,g1,g2,g3⟩:=h.2.2 c b cap h7 h0;refine⟨es,g1,g2,fun j hj=>?_⟩;obtain⟨a,k1,k2|k2⟩:=g3 j hj
 ·exact⟨a,k1,.inl ⟨k2.1,fun hd=>k2.2 (hD c b cap j h7 hj hd)⟩⟩
 ·exact⟨a,k1,.inr k2⟩
theorem Vu{σ:St}{c0:Nat}{es es':List (List AV)}{cap cap':Nat}{a:AV}{l:List (List AV)}(hc:σ c0=some (.rows 4 es false cap))(h:Ow 3 σ a l):Ow 3 (σ.set c0 (.rows 4 es' false cap')) a l:=h.keep fun x o hx ho=>by
 have:x≠c0:=fun e=>by
  subst e;obtain⟨k,hk⟩:=h.lat.own_rows ho;rw[hc]at hk;cases hk
 rw[Ag this];exact hx
theorem JB.put(h:JB σ0 σ7 σ1 v es7 D)(hs:∀x o,σ1 x=some o→σ2 x=some o){c0 cap0 j0:Nat}{b0:List Fa}{es:List (List AV)}{a:AV}(h7:σ7 c0=some (.rows 4 (faC b0) false cap0))(h0:σ0 c0=none)(h1:σ1 c0=some (.rows 4 es false cap0))(hj:j0<b0.length)
  (ha:Ow 3 σ2 a (cnC b0[j0].ar)) (hf:∀x,Own a x→σ0 x=none) (hD:∀c j,D' c j→D c j∨(c=c0∧j=j0)):JB σ0 σ7 (σ2.set c0 (.rows 4 (es.set j0 (faX b0[j0] a)) false cap0)) v es7 D':=by
 have h2:=hs _ _ h1;refine⟨fun x o hx=>?_,(h.2.1.sub hs).keep fun x o hx ho=>?_,fun c b cap hc7 hc0=>?_⟩
 ·rw[Ag (fun e=>by rw[e,h0]at hx;cases hx)]
  exact hs _ _ (h.1 x o hx)
 ·rw[Ag (fun e=>?_)]
  ·exact hx
  ·subst e
   obtain⟨k,hk⟩:=h.2.1.lat.own_rows ho;rw[h1]at hk;cases hk
 ·obtain⟨es',g1,g2,g3⟩:=h.2.2 c b cap hc7 hc0
  by_cases e:c=c0
  ·subst e
   rw[h7]at hc7;injection hc7 with hc7;injection hc7 with e1 e2 e3 e4;have:=Acd e2;subst this;subst e4;rw[h1]at g1;injection g1 with g1;injection g1 with _ g1 _ _;subst g1;refine⟨_,Ab,by simp[g2],fun j hj'=>?_⟩;by_cases ej:j=j0
   ·subst ej
    refine⟨a,?_,.inr ⟨Vu h2 ha,hf⟩⟩;simp[List.getD_eq_getElem?_getD,List.getElem?_set,g2,hj]
   ·obtain⟨a',k1,k2⟩:=g3 j hj'
    refine⟨a',?_,?_⟩
    ·rw[List.getD_eq_getElem?_getD,List.getElem?_set_ne (Ne.symm ej),←List.getD_eq_getElem?_getD];exact k1
    ·rcases k2 with k2|k2
     ·exact .inl ⟨k2.1,fun hd=>(hD _ _ hd).elim k2.2 fun h=>ej h.2⟩
     ·exact .inr ⟨Vu h2 (k2.1.sub hs),k2.2⟩
  ·refine⟨es',by rw[Ag e];exact hs _ _ g1,g2,fun j hj'=>?_⟩
   obtain⟨a',k1,k2|k2⟩:=g3 j hj'
   ·exact⟨a',k1,.inl ⟨k2.1,fun hd=>(hD _ _ hd).elim k2.2 fun h=>e h.1⟩⟩
   ·exact⟨a',k1,.inr ⟨Vu h2 (k2.1.sub hs),k2.2⟩⟩
end
structure BV(β σ0:St) where
 bd:List Fa
 v:AV
 ow:Ow 4 β v (faC bd)
 sm:SmB bd
 fr:∀x,Own v x→σ0 x=none
instance(β σ0:St):Inhabited (BV β σ0):=⟨⟨[],A0,.inl ⟨rfl,.inl rfl⟩,⟨by simp,fun x hx=>by cases hx⟩,fun x hx=>absurd hx Bh⟩⟩
def BV.en{β σ0:St}(x:BV β σ0):List AV:=[x.v]
theorem BV.one{β σ0:St}(x:BV β σ0):x.en.all AV.one=true:=by simp[BV.en,x.ow.lat.one]
theorem BV.cells{β σ0:St}(x:BV β σ0):(x.en.getD 0 (.v undef)).cells=x.en:=by simp[BV.en,x.ow.lat.cells]
def BV.cf{β σ0:St}(x y:BV β σ0):Int:=Ed x.bd y.bd
def BV.eq{β σ0:St}(x y:BV β σ0):Bool:=decide (x.bd=y.bd)
theorem BV.swo{β σ0:St}:Go.Sort.SWO (ltc (BV.cf (β:=β) (σ0:=σ0))) where
 irrefl x:=Dh.swo.irrefl x.bd
 trans x y z:=Dh.swo.trans x.bd y.bd z.bd
 ntrans x y z:=Dh.swo.ntrans x.bd y.bd z.bd
theorem BV.ord_at{β σ0:St}(σ':St)(hs:∀x o,β x=some o→σ' x=some o)(x y:BV β σ0):AT Tryz.prog 103 [x.en.getD 0 (.v undef),y.en.getD 0 (.v undef)] σ' fun r σ''=>r=int (BV.cf x y)∧σ''=σ':=
 orderB_at (.of (x.ow.sub hs).lat) (.of (y.ow.sub hs).lat) x.sm y.sm
theorem BV.eq_at{β σ0:St}(σ':St)(hs:∀x o,β x=some o→σ' x=some o)(x y:BV β σ0):AT Tryz.prog 105 [x.en.getD 0 (.v undef),y.en.getD 0 (.v undef)] σ' fun r σ''=>r=boo (BV.eq x y)∧σ''=σ':=
 eqB_at (.of (x.ow.sub hs).lat) (.of (y.ow.sub hs).lat) x.sm y.sm
theorem BV.done{β σ0:St}{d:Array (BV β σ0)}{out:List (List Fa)}(hp:(d.toList.map BV.bd).Perm out)(hs:Go.Sort.SortedIn (ltc BV.cf) 0 d.size d):(Dd BV.eq d.toList).map BV.bd=Ba Ed [] out:=by
 rw[Xd (e:=BV.eq) (f:=BV.bd) (e':=fun a b=>decide (a=b)) (fun x y=>by unfold BV.eq;simp) (fun x y=>by simp)];refine Rg Dh (fun x y=>by simp) hp ?_ (.refl _);rw[List.pairwise_map];exact Uj (c:=BV.cf) (fun x y=>Dh.anti x.bd y.bd) hs
section
variable{σ:St}
theorem Xb(g:Nat):AT Tryz.prog 104 [A0,fnv g] σ fun r σ'=>r=A0∧σ'=σ:=by
 refine AT.ob Tryz.func104 rfl ?_;have d:decide ((0:Int)<2)=true:=rfl;simp only[go_sem,d];exact Ad (r:=A0) rfl ⟨rfl,rfl⟩
end
theorem PB.view{σ0 σ:St}{v:AV}{bods:List (List Fa)}(h:PB σ0 σ v bods):Gt σ v σ0 (.sl 1 (boC bods)):=by
 obtain⟨h1,h2,es,h3,h4,h5⟩:=h;refine view_of (F9 fun x o hx=>.inl (h1 x o hx)) (h3.lat.vw h2 (by rw[Fk,h4]) fun i hi=>?_);obtain⟨w,k1,k2⟩:=h5 i (by omega);rw[C0 (by omega),k1];refine vws_cons ?_ By;rcases k2 with⟨e,rfl|rfl⟩|⟨c,cap,rfl,k3,k4,es',k5,k6,k7⟩
 ·rw[e];exact .nil 4
 ·rw[e];exact LAt.full.vw_same fun x hx=>absurd hx A1
 ·have hL:LAt 4 σ (slv c bods[i].length cap) es':=.inr (.inr ⟨c,cap,by rw[k6],by omega,k5⟩)
  refine hL.vw (fun x hx=>by rw[Bw.1 hx];exact k4) (by rw[Am,k6]) fun j hj=>?_;rw[Au (by omega)];obtain⟨a,g1,g2⟩:=k7 j (by omega);exact FrX.vws ⟨a,g1,(g2.resolve_left fun h=>h.2 trivial).1.lat|> .of,(g2.resolve_left fun h=>h.2 trivial).2⟩
open Go Go.Av Go.RowKit
section
variable{P:Program}{l:List Oper}{K:Fr→St→Prop}
abbrev P0:=List (Nat×(St→Prop))
def aPre(P:Program)(l:List Oper)(C:P0→Fr→St→Prop):List PS→P0→Fr→St→Prop
 | [],S,fr,σ=>C S fr σ
 | .rd i keep::r,S,fr,σ=>match l[i]? with
  |none=>False
  |some o=>o.guard=none∧aOp P o.op fr σ fun v σ'=>aPre P l C r (if keep then(i,fun σ''=>Yl P o.op fr σ'' v)::S else S) (fr.put o.dst v) σ'
 | .ef _ _::_,_,_,_=>False
def brOk(P:Program)(ops:Array Oper)(i:Nat)(c1:List Nat)(r1:List PS)(j:Nat)(c2:List Nat)(r2:List PS):List PS→Array Bool→List Nat→Bool
 | [],L,N=>(Region.ready .any ops L== [i,j])&&(Ei P ops i==2)&&(Ei P ops j==2)&&(N.all fun p=>Cj ops ops.size i p||c1.contains p)&&(N.all fun p=>Cj ops ops.size j p||c2.contains p)
   &&Dp P ops r1 (L.setIfInBounds i true) N&&Dp P ops r2 (L.setIfInBounds j true) N
 | .rd k keep::r,L,N=>(Region.ready .any ops L).contains k&&(Ei P ops k==0||(Ei P ops k==1&&keep))&&Region.free .any ops L k&&brOk P ops i c1 r1 j c2 r2 r (L.setIfInBounds k true) (if keep then k::N else N)
 | .ef _ _::_,_,_=>false
theorem Agk{i:Nat}{chk:List Nat}{r:List PS}{L:Array Bool}{N:List Nat}{Sl:P0}{S:Lx}{fr:Fr}{σ:St}(hri:i∈Region.ready .any l.toArray L)(hc:Ei P l.toArray i=2)(hn:(N.all fun p=>Cj l.toArray l.toArray.size i p||chk.contains p)=true)
  (hok:Dp P l.toArray r (L.setIfInBounds i true) N=true) (hL:Mb l.toArray L) (hS:∀p q,S p q→(∀σ',q σ')∨(p,q)∈Sl) (hN:∀x∈Sl,x.1∈N) (h:Ce P (Hu l.toArray) l K (.ef i chk::r) Sl fr σ):
  Q1 P l.toArray i S (fun S' fr' σ'=>Qc P l.toArray K r.length (L.setIfInBounds i true) S' fr' σ') fr σ:=by
 simp only[Ce]at h;cases hi:l[i]? with
 |none=>rw[hi]at h;exact h.elim
 |some o=>
  rw[hi]at h;have hi':l.toArray[i]? =some o:=by simpa using hi
  have hcl:Ei P l.toArray i=cls P o.op:=by simp[Ei,hi]
  rw[hcl]at hc;unfold Q1;rw[hi'];refine Hq (fun h=>Jo _ _ (fun v σ' hv=>?_) h) (fun h=>?_) h
  ·rw[if_pos hc]
   refine⟨fun p q hpq hb=>?_,H4 r _ N Sl S _ _ hok (Dw hL hri) hS hN hv.2⟩;rcases hS p q hpq with h|h
   ·exact h σ'
   ·have:=List.all_eq_true.1 hn p (hN _ h)
    rw[hb,Bool.false_or]at this;exact Z6 h (U7 (by simpa using this) hv.1)
  ·exact H4 r _ N Sl S _ _ hok (Dw hL hri) hS hN h
theorem Ac4{i j:Nat}{c1 c2:List Nat}{r1 r2:List PS}(hlen:r1.length=r2.length):∀(pre:List PS) (L:Array Bool) (N:List Nat) (Sl:P0) (S:Lx) (fr:Fr) (σ:St),brOk P l.toArray i c1 r1 j c2 r2 pre L N=true→Mb l.toArray L→
  (∀p q,S p q→(∀σ',q σ')∨(p,q)∈Sl)→(∀x∈Sl,x.1∈N)→
  aPre P l (fun S fr σ=>Ce P (Hu l.toArray) l K (.ef i c1::r1) S fr σ∧Ce P (Hu l.toArray) l K (.ef j c2::r2) S fr σ) pre Sl fr σ→Qc P l.toArray K (pre.length+(r1.length+1)) L S fr σ
 | [],L,N,Sl,S,fr,σ,hok,hL,hS,hN,h=>by
  simp only[brOk,Bool.and_eq_true,beq_iff_eq]at hok;obtain⟨⟨⟨⟨⟨⟨hr,h1⟩,h2⟩,h3⟩,h4⟩,h5⟩,h6⟩:=hok;rw[List.length_nil,Nat.zero_add];refine⟨fun h=>(by rw[h]at hr;cases hr),fun k hk=>?_⟩;have hk':=hk;rw[hr]at hk';simp only[List.mem_cons,List.not_mem_nil,or_false]at hk';rcases hk' with rfl|rfl
  ·exact Agk hk h1 h3 h5 hL hS hN h.1
  ·rw[hlen];exact Agk hk h2 h4 h6 hL hS hN h.2
 | .ef _ _::r,L,N,Sl,S,fr,σ,hok,hL,hS,hN,h=>h.elim
 | .rd k keep::r,L,N,Sl,S,fr,σ,hok,hL,hS,hN,h=>by
  simp only[brOk,Bool.and_eq_true,Bool.or_eq_true,beq_iff_eq]at hok;obtain⟨⟨⟨hr,hc⟩,hf⟩,hok⟩:=hok;have hr:k∈Region.ready .any l.toArray L:=by simpa using hr
  simp only[aPre]at h;cases hi:l[k]? with
  |none=>rw[hi]at h;exact h.elim
  |some o=>
   rw[hi]at h;obtain⟨hg,h⟩:=h;have hi':l.toArray[k]? =some o:=by simpa using hi
   have hcl:Ei P l.toArray k=cls P o.op:=by simp[Ei,hi]
   rw[hcl]at hc;have hne:cls P o.op≠2:=by rcases hc with h|⟨h,_⟩<;>omega
   obtain⟨v,hk,hy⟩:=M5 hne h;rw[show(PS.rd k keep::r).length+(r1.length+1)=(r.length+(r1.length+1))+1 by simp only[List.length_cons];omega];refine Ml hi' hne _ L S fr σ hL (Region.free_spec hi' hf) hr (.inl ⟨fun A B hA=>by rw[hg];exact hA,hy,?_⟩);refine Ac4 hlen r _ _ _ _ _ _ hok (Dw hL hr) ?_ ?_ hk
   ·rintro p q (hp|⟨rfl,rfl⟩)
    ·rcases hS p q hp with h|h
     ·exact .inl h
     ·refine .inr ?_
      split
      ·exact List.mem_cons_of_mem _ h
      ·exact h
    ·rcases hc with h0|⟨_,h0⟩
     ·exact .inl fun σ'=>hy.any h0 σ'
     ·rw[if_pos h0]
      exact .inr (List.mem_cons_self ..)
   ·intro x hx
    cases keep with
    |true=>
     rcases List.mem_cons.1 hx with rfl|hx
     ·exact List.mem_cons_self ..
     ·exact List.mem_cons_of_mem _ (hN x hx)
    |false=>exact hN x hx
theorem Adr{fr:Fr}{σ:St}(pre:List PS)(i:Nat)(c1:List Nat)(r1:List PS)(j:Nat)(c2:List Nat)(r2:List PS)(hm:P.follows .mixedOrders=true)(hlen:(pre.length+(r1.length+1)==l.length)=true)(hl:(r1.length==r2.length)=true)(hok:brOk P l.toArray i c1 r1 j c2 r2 pre (Array.replicate l.length false) []=true)
  (h:aPre P l (fun S fr σ=>Ce P (l.map (·.dst)) l K (.ef i c1::r1) S fr σ∧Ce P (l.map (·.dst)) l K (.ef j c2::r2) S fr σ) pre (@hid _ ⟨[]⟩) fr σ):Qw P l.toArray K fr σ:=by
 refine M1 hm ?_;have e:pre.length+(r1.length+1)=l.toArray.size:=by simpa using hlen
 rw[←e];refine Ac4 (by simpa using hl) pre _ [] [] _ fr σ ?_ ?_ (fun _ _ h=>h.elim) (fun x hx=>by cases hx) h
 ·rw[e];simpa using hok
 ·intro i o hi
  rw[e]at hi;rcases Nat.lt_or_ge i l.length with h'|h'
  ·simp[Array.getElem?_replicate,h']at hi
  ·simp[Array.getElem?_replicate,Nat.not_lt.2 h']at hi
def aRdP(P:Program)(l:List Oper)(C:P0→Fr→St→Prop)(keep:Bool)(i:Nat)(r:List PS)(S:P0)(fr:Fr)(σ:St):Option Oper→Prop
 |none=>False
 |some o=>o.guard=none∧aOp P o.op fr σ fun v σ'=>aPre P l C r (if keep then(i,fun σ''=>Yl P o.op fr σ'' v)::S else S) (fr.put o.dst v) σ'
variable{C:P0→Fr→St→Prop}{S:P0}{fr:Fr}{σ:St}{r:List PS}{i:Nat}{d:Option Nat}{op:Op}{t:TypeId}{p:String}{e:Array Edge}
@[go_sem] theorem Ar4:aPre P l C [] S fr σ=C S fr σ:=_root_.id rfl
@[go_sem] theorem Atx{keep:Bool}:aPre P l C (.rd i keep::r) S fr σ=aRdP P l C keep i r S fr σ (l[i]?):=by
 unfold aPre aRdP;cases l[i]? <;>rfl
@[go_sem] theorem Awu:aRdP P l C true i r S fr σ (some {dst:=d,op:=op,type:=t,pos:=p,after:=e,guard:=none})=aOp P op fr σ (@hid _ ⟨fun v σ'=>aPre P l C r (@hid _ ⟨(i,fun σ''=>Yl P op fr σ'' v)::S⟩) (fr.put d v) σ'⟩):=by
 simp only[aRdP,true_and];rfl
@[go_sem] theorem Awv:aRdP P l C false i r S fr σ (some {dst:=d,op:=op,type:=t,pos:=p,after:=e,guard:=none})=aOp P op fr σ (@hid _ ⟨fun v σ'=>aPre P l C r S (fr.put d v) σ'⟩):=by
 simp only[aRdP,true_and];rfl
end
end Go.Proofs.YtmifmncabejffaaGreat
