/-
  The program logic: definitions and lemmas over any program.
  Conditions: none.
-/
import Derived.Test.YtmifmncabejffaaGreatV1EvalFull
import Derived.Test.YtmifmncabejffaaGreatV2EvalFull
set_option linter.unusedVariables false
set_option linter.unusedSimpArgs false
set_option linter.unusedSectionVars false
set_option maxRecDepth 100000
namespace Go.Av
open Go Go.RowKit
def Ev{α β:Type}(f:α→Option β):List α→Option (List β)
 | []=>some []
 |x::l=>match f x with
  |some y=>match Ev f l with
   |some m=>some (y::m)
   |none=>none
  |none=>none
theorem Lt{α β:Type}{f:α→Option β}:∀{l:List α} {m:List β},Ev f l=some m→m.length=l.length∧∀(i:Nat) (x:α),l[i]? =some x→∃y,m[i]? =some y∧f x=some y
 | [],m,h=>by
  simp only[Ev,Option.some.injEq]at h;subst h;exact⟨rfl,fun i x hx=>by simp at hx⟩
 |a::l,m,h=>by
  simp only[Ev]at h;split at h
  ·rename_i y hy
   split at h
   ·rename_i m' hm
    injection h with h;subst h;obtain⟨h1,h2⟩:=Lt hm;refine⟨by simp[h1],fun i x hx=>?_⟩;cases i with
    |zero=>simp at hx;subst hx;exact⟨y,by simp,hy⟩
    |succ i=>simp at hx;obtain⟨z,hz,hf⟩:=h2 i x hx;exact⟨z,by simpa using hz,hf⟩
   ·cases h
  ·cases h
def rdF:Nat→Sto→RS→Option AV
 |0,_,_=>none
 |k+1,h,x=>match x with
  | .v x=>some (.v x)
  | .agg cs=>match Ev (rdF k h) cs with
   |some l=>some (.agg l)
   |none=>none
  | .tup cs=>match Ev (rdF k h) cs with
   |some l=>some (.tup l)
   |none=>none
  | .row i n=>match h.get i with
   | .rows q es _=>match Nat.beq n es.length with
    |true=>match Ev (Ev (rdF k h)) es with
     |some l=>some (.sl q l)
     |none=>none
    |false=>none
   |_=>none
  | .fsl q es=>match Ev (Ev (rdF k h)) es with
   |some l=>some (.sl q l)
   |none=>none
  | .sl q es=>match Ev (Ev (rdF k h)) es with
   |some l=>some (.sl q l)
   |none=>none
  |_=>none
section
variable{σ0 σ:St}{c:Cx}{h:Sto}
theorem X1{k:Nat}(ih:∀(x:RS) (a:AV),rdF k h x=some a→x.wf h.n→VW σ σ0 (x.iv c) a){cs:List RS}{l:List AV}(he:Ev (rdF k h) cs=some l)(hw:RS.wfs h.n cs):l.length=(RS.ivs c cs).length∧∀j,j<(RS.ivs c cs).length→VW σ σ0 ((RS.ivs c cs).getD j (.v undef)) (l.getD j (.v undef)):=by
 obtain⟨h1,h2⟩:=Lt he;rw[Dl,List.length_map];refine⟨h1,fun j hj=>?_⟩;have hx:cs[j]? =some cs[j]:=List.getElem?_eq_getElem hj;obtain⟨y,hy,hf⟩:=h2 j _ hx;rw[List.getD_eq_getElem?_getD,List.getD_eq_getElem?_getD,hy,List.getElem?_map,hx];exact ih _ _ hf (Sd hw hx)
theorem X2{k:Nat}(ih:∀(x:RS) (a:AV),rdF k h x=some a→x.wf h.n→VW σ σ0 (x.iv c) a){es:List (List RS)}{l:List (List AV)}(he:Ev (Ev (rdF k h)) es=some l)(hw:RS.wfss h.n es):
  l.length=(RS.ivss c es).length∧(∀i,i<(RS.ivss c es).length→(l.getD i []).length=((RS.ivss c es).getD i []).length)∧∀i j,i<(RS.ivss c es).length→j<((RS.ivss c es).getD i []).length→VW σ σ0 (((RS.ivss c es).getD i []).getD j (.v undef)) ((l.getD i []).getD j (.v undef)):=by
 obtain⟨h1,h2⟩:=Lt he;rw[Cq,List.length_map];have key:∀i,i<es.length→∃x y,(es.map (RS.ivs c)).getD i []=RS.ivs c x∧l.getD i []=y∧Ev (rdF k h) x=some y∧RS.wfs h.n x:=fun i hi=>by
  have hx:es[i]? =some es[i]:=List.getElem?_eq_getElem hi;obtain⟨y,hy,hf⟩:=h2 i _ hx;refine⟨es[i],y,?_,?_,hf,L8 hw hx⟩
  ·rw[List.getD_eq_getElem?_getD,List.getElem?_map,hx];rfl
  ·rw[List.getD_eq_getElem?_getD,hy];rfl
 refine⟨h1,fun i hi=>?_,fun i j hi hj=>?_⟩
 ·obtain⟨x,y,e1,e2,e3,e4⟩:=key i hi
  rw[e1,e2];exact(X1 ih e3 e4).1
 ·obtain⟨x,y,e1,e2,e3,e4⟩:=key i hi
  rw[e1]at hj⊢;rw[e2];exact(X1 ih e3 e4).2 j hj
theorem Ara(hM:Mt σ0 c h σ):∀(k:Nat) (x:RS) (a:AV),rdF k h x=some a→x.wf h.n→VW σ σ0 (x.iv c) a
 |0,x,a,he,_=>by cases he
 |k+1,x,a,he,hw=>by
  have ih:=Ara hM k;unfold rdF at he;split at he
  ·injection he with he
   subst he;simp only[RS.iv,RS.vv];exact .refl _
  ·split at he
   ·rename_i l hl
    injection he with he;subst he;simp only[RS.wf]at hw;simp only[RS.iv];obtain⟨h1,h2⟩:=X1 ih hl hw;exact .agg _ _ h1 h2
   ·cases he
  ·split at he
   ·rename_i l hl
    injection he with he;subst he;simp only[RS.wf]at hw;simp only[RS.iv];obtain⟨h1,h2⟩:=X1 ih hl hw;exact .tup _ _ h1 h2
   ·cases he
  ·rename_i i n
   split at he
   ·rename_i q es frz hg
    split at he
    ·rename_i hn
     have hn:=Nat.eq_of_beq_eq_true hn;split at he
     ·rename_i l hl
      injection he with he;subst he;simp only[RS.wf]at hw;simp only[RS.iv,RS.vv];have ho:=hM.ob i (.rows q (RS.ivss c es) frz (c.k i)) hw (by rw[hg];rfl);have hwe:=hM.wf.ob i hw;rw[hg]at hwe;have hcap:=hM.cap i hw;rw[hg]at hcap;simp only[SO.len]at hcap;obtain⟨h1,h2,h3⟩:=X2 ih hl hwe;have hle:(RS.ivss c es).length=es.length:=by rw[Cq,List.length_map]
      have hf:σ0 (c.r i)=none:=by
       cases e:σ0 (c.r i)with
       |none=>rfl
       |some o=>exact absurd rfl (hM.sep i (c.r i) o hw (by rw[hg];intro e;cases e) e)
      exact VW.row (c.r i) q (RS.ivss c es) l frz (c.k i) n (c.k i) ho hf (by omega) (by omega) h1 h2 h3
     ·cases he
    ·cases he
   ·cases he
  ·rename_i q es
   split at he
   ·rename_i l hl
    injection he with he;subst he;simp only[RS.wf]at hw;simp only[RS.iv];obtain⟨h1,h2,h3⟩:=X2 ih hl hw;exact .full q _ _ h1 h2 h3
   ·cases he
  ·rename_i q es
   split at he
   ·rename_i l hl
    injection he with he;subst he;simp only[RS.wf]at hw;simp only[RS.iv];obtain⟨h1,h2,h3⟩:=X2 ih hl hw;exact .part q _ _ h1 h2 h3
   ·cases he
  ·cases he
def runV(P:Program)(ty:Tr TE)(ft:Tr FE)(idle:FuncId→Bool)(lf d k:Nat)(f:FuncId)(as:List RS):Option AV:=match(mkE P ty ft idle lf d).cl f as ⟨0,.e⟩with
 |some (v,h)=>rdF k h v
 |none=>none
variable{P:Program}
theorem Aps{ty:Tr TE}{ft:Tr FE}{idle:FuncId→Bool}(hp:PrOk P ty ft idle){lf d k:Nat}{f:FuncId}{as:List RS}{x:AV}(he:runV P ty ft idle lf d k f as=some x)(hcl:Vp P f=false)(a:Nat→AV)(ha:∀i,(a i).one=true∧(a i).cells=[a i])(has:RS.wfs 0 as):
  AT P f (RS.ivs ⟨fun i=>i,fun i=>i,a⟩ as) σ fun r σ'=>r=x∧σ'=σ:=by
 unfold runV at he;split at he
 ·rename_i v h1 hc
  have hM:Mt σ ⟨fun i=>i,fun i=>i,a⟩ ⟨0,.e⟩ σ:=⟨ha,⟨Nat.zero_le _,fun i hi=>absurd hi (Nat.not_lt_zero _)⟩,fun y o h=>h,fun i o hi=>absurd hi (Nat.not_lt_zero _),fun i y o hi=>absurd hi (Nat.not_lt_zero _),fun i j hi=>absurd hi (Nat.not_lt_zero _),fun i hi=>absurd hi (Nat.not_lt_zero _)⟩;have h:=(Acy hp lf d).cl f as _ _ _ hc σ _ σ (fun r σ'=>∃c,Mt σ c h1 σ'∧v.wf h1.n∧r=v.iv c) hM has fun c' σ' _ hM' _ _ hw=>⟨c',hM',hw,rfl⟩;exact h.post hcl fun r σ' ⟨c,h1,h2,h3⟩=>⟨x,σ,by rw[h3];exact view_of (Es fun y o hy=>.inl (h1.base y o hy)) (Ara h1 k v x he h2),rfl,rfl⟩
 ·cases he
end
end Go.Av
