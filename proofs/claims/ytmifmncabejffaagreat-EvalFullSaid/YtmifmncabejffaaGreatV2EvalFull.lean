/-
  The program logic: definitions and lemmas over any program.
  Conditions: none.
-/
import Derived.Deep.Quiet
import Derived.ProofKit
import Derived.OpenShut
import Derived.ShutString
import Derived.ChangeOld
import Derived.Below
import Derived.SizedLaws
import Derived.Laws.Externs
import Derived.Test.YtmifmncabejffaaGreatV1EvalFull
set_option linter.unusedVariables false
set_option linter.unusedSimpArgs false
set_option linter.unusedSectionVars false
set_option maxRecDepth 100000
namespace Go.Av
open Go Go.RowKit
theorem Ajp{fr:Fr}{d:Option Nat}{v:AV}{x:Operand}(h:∀t,d=some t→x≠.tmp t):(fr.put d v).ev x=fr.ev x:=by
 cases d with
 |none=>rfl
 |some t=>
  cases x with
  |tmp s=>
   have:s≠t:=fun e=>h t rfl (by rw[e]);simp[Fr.put,Fr.up,Fr.ev,this]
  |_=>rfl
theorem J1{fr:Fr}{d d':Option Nat}{v v':AV}(h:∀t,d=some t→d'≠some t):(fr.put d v).put d' v'=(fr.put d' v').put d v:=by
 cases d with
 |none=>rfl
 |some t=>
  cases d' with
  |none=>rfl
  |some t'=>
   have:t≠t':=fun e=>h t rfl (by rw[e]);funext x;simp only[Fr.put,Fr.up];by_cases h1:x=t'
   ·subst h1;simp[Ne.symm this]
   ·by_cases h2:x=t
    ·subst h2;simp[h1]
    ·simp[h1,h2]
theorem Qm{e e':Operand→AV}:∀(l:List (Nat×Operand)),(∀p∈l,e p.2=e' p.2)→evs e l=evs e' l
 | [],_=>rfl
 |p::l,h=>by
  have:=Qm l fun q hq=>h q (by simp[hq]);simp only[evs,List.map_cons]at this⊢;rw[h p (by simp),this]
theorem Kl{e e':Operand→AV}:∀(l:List Operand),(∀p∈l,e p=e' p)→C9 e l=C9 e' l
 | [],_=>rfl
 |p::l,h=>by
  simp only[C9];rw[h p (by simp),Kl l fun q hq=>h q (by simp[hq])]
theorem Tx{α β:Type}{e e':α→β}:∀(l:List α),(∀p∈l,e p=e' p)→l.map e=l.map e'
 | [],_=>rfl
 |p::l,h=>by rw[List.map_cons,List.map_cons,h p (by simp),Tx l fun q hq=>h q (by simp[hq])]
theorem Nv{α β:Type}{e e':α→β}(o:Option α)(h:∀p,o=some p→e p=e' p):o.map e=o.map e':=by
 cases o with
 |none=>rfl
 |some p=>rw[Option.map_some,Option.map_some,h p rfl]
theorem Agn{P:Program}{o:Op}{fr fr':Fr}{σ:St}{k:AV→St→Prop}(h:∀x∈o.operands,fr.ev x=fr'.ev x):aOp P o fr σ k=aOp P o fr' σ k:=by
 have hh:=fun x=>h x;cases o with
 |move x=>simp only[aOp,h x (by simp[Op.operands])]
 |assign x=>simp only[aOp,h x (by simp[Op.operands])]
 |pick c x y=>simp only[aOp,h c (by simp[Op.operands]),h x (by simp[Op.operands]),h y (by simp[Op.operands])]
 |box e x=>simp only[aOp,h x (by simp[Op.operands])]
 |build t ps=>
  simp only[aOp];rw[Qm ps.toList fun p hp=>h p.2 (by simp only[Op.operands,List.mem_toArray];exact List.mem_map.2 ⟨p,hp,rfl⟩)]
 |buildSlice t n ps=>
  simp only[aOp];rw[Qm ps.toList fun p hp=>h p.2 (by simp only[Op.operands,List.mem_toArray];exact List.mem_map.2 ⟨p,hp,rfl⟩)]
 |load t x=>simp only[aOp,h x (by simp[Op.operands])]
 |store t x y=>simp only[aOp,h x (by simp[Op.operands]),h y (by simp[Op.operands])]
 |nilCheck x=>simp only[aOp,h x (by simp[Op.operands])]
 |binOp op t x y ty=>simp only[aOp,h x (by simp[Op.operands]),h y (by simp[Op.operands])]
 |unOp op t x=>simp only[aOp,h x (by simp[Op.operands])]
 |convert s d x=>simp only[aOp,h x (by simp[Op.operands])]
 |makeFunc fn l m=>
  simp only[aOp,Fq];rw[Kl l.toList fun p hp=>h p (by simp[Op.operands];left;simpa using hp),Kl m.toList fun p hp=>h p (by simp[Op.operands];right;simpa using hp)]
 |slice t x lo hi mx=>
  simp only[aOp];rw[h x (by simp[Op.operands]),Nv lo fun p hp=>h p (by simp[Op.operands,hp]),Nv hi fun p hp=>h p (by simp[Op.operands,hp]),Nv mx fun p hp=>h p (by simp[Op.operands,hp])]
 |fieldAddr s x f=>simp only[aOp,h x (by simp[Op.operands])]
 |field s x f=>simp only[aOp,h x (by simp[Op.operands])]
 |indexAddr t x ix=>simp only[aOp,h x (by simp[Op.operands]),h ix (by simp[Op.operands])]
 |index t x ix=>simp only[aOp,h x (by simp[Op.operands]),h ix (by simp[Op.operands])]
 |extract x j=>simp only[aOp,h x (by simp[Op.operands])]
 |call c=>
  obtain⟨callee,args,ts⟩:=c;have ha:args.toList.map fr.ev=args.toList.map fr'.ev:=Tx _ fun p hp=>h p (by simp[Op.operands,Call.operands];right;simpa using hp);have hb:∀p∈args.toList,fr.ev p=fr'.ev p:=fun p hp=>h p (by simp[Op.operands,Call.operands];right;simpa using hp);simp only[aOp,Fe];cases callee with
  |value y=>
   cases y with
   |func f=>simp only[ha]
   |tmp t=>
    have:=h (.tmp t) (by simp[Op.operands,Call.operands]);simp only[Fr.ev]at this;simp only[ha,this]
   |_=>rfl
  |invoke r m=>rfl
  |builtin b=>
   cases b
   case len=>
    simp only;split
    ·rename_i x t hx ht
     rw[hb x (by rw[hx];simp)]
    ·rfl
   case append=>
    simp only;split
    ·rename_i s x t1 t2 hx ht
     rw[hb x (by rw[hx];simp),hb s (by rw[hx];simp)]
    ·rfl
   all_goals simp only[ha]
 |alloc e=>rfl
 |_=>exact Yv (P:=P) (σ:=σ) (k:=k) h
theorem Ahk{i:Option TK}{σ:St}{p x:AV}:Mon fun k=>Gq i σ p x fun σ'=>k (.v undef) σ':=by
 intro k k' hk h;unfold Gq at h⊢;cases i with
 |none=>exact h
 |some i=>
  refine⟨h.1,h.2.1,?_⟩;have h:=h.2.2;split at h
  ·split at h
   ·rename_i hb;simp only[hb];exact⟨h.1,hk _ _ h.2⟩
   ·exact h.elim
  ·split at h
   ·rename_i hb;simp only[hb];exact⟨h.1,h.2.1,h.2.2.1,hk _ _ h.2.2.2⟩
   ·exact h.elim
  ·exact h.elim
theorem Ahi{q eby:Nat}{ys:List (List AV)}{σ:St}{s:AV}:Mon (F9 q eby ys σ s):=by
 intro k k' hk h;unfold F9 at h⊢;split at h
 ·exact⟨fun e=>hk _ _ (h.1 e),fun e=>⟨(h.2 e).1,fun b cap hb hc=>hk _ _ ((h.2 e).2 b cap hb hc)⟩⟩
 ·exact⟨h.1,fun e=>hk _ _ (h.2.1 e),fun e=>⟨(h.2.2 e).1,fun b cap hb hc=>hk _ _ ((h.2.2 e).2 b cap hb hc)⟩⟩
 ·rcases h with⟨h1,h2,es,h3,h4,h5⟩|⟨hp,h⟩|⟨hp,h⟩|⟨h0,pre,es,cap',h1,h2,h3,h4,h5,h6⟩
  ·exact .inl ⟨h1,h2,es,h3,h4,fun b' c' hb' hc'=>hk _ _ (h5 b' c' hb' hc')⟩
  ·refine .inr (.inl ⟨hp,?_⟩)
   split at h
   ·exact⟨h.1,h.2.1,h.2.2.1,h.2.2.2.1,fun b' c' hb' hc'=>hk _ _ (h.2.2.2.2 b' c' hb' hc')⟩
   ·exact h.elim
  ·refine .inr (.inr (.inl ⟨hp,?_⟩))
   split at h
   ·exact⟨h.1,h.2.1,h.2.2.1,h.2.2.2.1,h.2.2.2.2.1,hk _ _ h.2.2.2.2.2⟩
   ·exact h.elim
  ·exact .inr (.inr (.inr ⟨h0,pre,es,cap',h1,h2,h3,h4,h5,fun b' p' c' hb' hc'=>hk _ _ (h6 b' p' c' hb' hc')⟩))
 ·exact h.elim
theorem Apb{i:Option TK}{σ:St}{s x:AV}:Mon (aApp i σ s x):=by
 intro k k' hk h;unfold aApp at h⊢;cases i with
 |none=>exact h
 |some i=>
  simp only at h⊢;split at h
  ·obtain⟨h1,h2,h3,ys,h4,h5⟩:=h
   exact⟨h1,h2,h3,ys,h4,Ahi k k' hk h5⟩
  ·exact h.elim
theorem Ak3{i j:Option TK}{σ:St}{x:AV}:Mon (Ji i j σ x):=by
 intro k k' hk h;cases i with
 |none=>exact h
 |some i=>
  cases j with
  |none=>exact h
  |some j=>
   simp only[Ji]at h⊢;split at h
   ·exact hk _ _ h
   ·exact hk _ _ h
   ·exact fun b cap hb hc=>hk _ _ (h b cap hb hc)
   ·obtain⟨es,h1,h2,h3⟩:=h
    exact⟨es,h1,h2,hk _ _ h3⟩
   ·exact h.elim
theorem Ac0{P:Program}{i:Option TK}{σ:St}{m x v:AV}:Mon fun k=>Kc P i σ m x v fun σ'=>k (.v undef) σ':=by
 intro k k' hk h;unfold Kc at h⊢;split at h
 ·split at h
  ·split at h
   ·split at h
    ·exact⟨h.1,h.2.1,hk _ _ h.2.2⟩
    ·exact h.elim
   ·exact h.elim
  ·exact h.elim
 ·exact h.elim
theorem Acz{P:Program}{i:Option TK}{σ:St}{m x:AV}:Mon (Kb P i σ m x):=by
 intro k k' hk h;unfold Kb at h⊢;split at h
 ·split at h
  ·split at h
   ·split at h
    ·exact⟨h.1,h.2.1,hk _ _ h.2.2⟩
    ·exact h.elim
   ·exact h.elim
  ·exact h.elim
 ·exact h.elim
theorem Aso{P:Program}{b:Builtin}{args:List AV}{ts:List TypeId}{σ:St}:Mon (aBI P b args ts σ):=by
 intro k k' hk h;unfold aBI at h⊢;split at h
 ·split at h
  ·exact Acz k k' hk h
  ·exact h.elim
 ·split at h
  ·exact Aek.mon k k' hk h
  ·exact h.elim
 ·split at h
  ·exact Aej.mon k k' hk h
  ·exact h.elim
 ·split at h
  ·unfold aClear at h⊢
   split at h
   ·exact h.elim
   ·split at h
    ·split at h
     ·exact hk _ _ h
     ·rename_i b p n _
      by_cases hn:n=0
      ·rw[if_pos hn]at h⊢
       exact hk _ _ h
      ·rw[if_neg hn]at h⊢
       split at h
       ·exact⟨h.1,h.2.1,h.2.2.1,h.2.2.2.1,h.2.2.2.2.1,hk _ _ h.2.2.2.2.2⟩
       ·exact h.elim
     ·exact h.elim
    ·exact h.elim
  ·exact h.elim
 ·split at h
  ·unfold aCap at h⊢
   split at h
   ·exact hk _ _ h
   ·exact h.elim
  ·exact h.elim
 ·split at h
  ·unfold U0 at h⊢
   split at h
   ·obtain⟨h1,es,cap,ys,m,h2,h3,h4,h5,h6,h7⟩:=h
    exact⟨h1,es,cap,ys,m,h2,h3,h4,h5,h6,hk _ _ h7⟩
   ·exact h.elim
  ·exact h.elim
 ·exact h.elim
theorem Ak2{i j:Option TK}{σ:St}{s x:AV}:Mon (aAppN i j σ s x):=by
 intro k k' hk h;unfold aAppN at h⊢;split at h
 ·obtain⟨h1,h2,h3,h4,h5,h6,es,frz,cap',h7,h8,h9⟩:=h
  exact⟨h1,h2,h3,h4,h5,h6,es,frz,cap',h7,h8,fun b' c' hb hc=>hk _ _ (h9 b' c' hb hc)⟩
 ·exact h.elim
theorem Ak4{P:Program}{o:Op}{fr:Fr}{σ:St}:Mon (Dv P o fr σ):=by
 intro k k' hk h;unfold Dv at h⊢;split at h
 ·unfold N3 at h⊢
  split at h
  ·split at h
   ·split at h
    ·exact⟨h.1,h.2.1,h.2.2.1,h.2.2.2.1,h.2.2.2.2.1,h.2.2.2.2.2.1,fun b hb=>hk _ _ (h.2.2.2.2.2.2 b hb)⟩
    ·exact h.elim
   ·exact h.elim
  ·exact h.elim
 ·unfold Qa at h⊢
  split at h
  ·split at h
   ·exact⟨h.1,h.2.1,hk _ _ h.2.2⟩
   ·exact h.elim
  ·exact h.elim
 ·exact fun b hb=>hk _ _ (h b hb)
 ·exact Zh.mon k k' hk h
 ·exact Ac0 k k' hk h
 ·exact Ael.mon k k' hk h
 ·exact Aeo.mon k k' hk h
 ·exact h.elim
theorem Ahj{P:Program}{x:AV}{args:List AV}{σ:St}:Mon (Ka P x args σ):=by
 intro k k' hk h;unfold Ka at h⊢;split at h
 ·exact⟨h.1,h.2.1,h.2.2.mono hk⟩
 ·exact h.mono hk
 ·exact h.elim
theorem Kd{P:Program}{o:Op}{fr:Fr}{σ:St}:Mon (aOp P o fr σ):=by
 have hm:=Ak4 (P:=P) (o:=o) (fr:=fr) (σ:=σ);cases o with
 |move x=>exact fun k k' hk h=>hk _ _ h
 |assign x=>exact fun k k' hk h=>hk _ _ h
 |pick c x y=>exact Zj.mon
 |alloc e=>
  intro k k' hk h;simp only[aOp,K4]at h⊢;split at h
  ·exact fun b hb=>hk _ _ (h b hb)
  ·exact h.elim
 |box e x=>exact fun k k' hk h=>⟨h.1,fun b hb=>hk _ _ (h.2 b hb)⟩
 |build t ps=>exact U8.mon
 |buildSlice t n ps=>exact S5.mon
 |load t x=>exact Zg.mon
 |store t x y=>exact Ahk
 |nilCheck x=>exact Aem.mon
 |binOp op t x y ty=>exact fun k k' hk h=>Ak5 (fun v=>hk v σ) h
 |unOp op t x=>exact Aiv.mon
 |convert s d x=>exact Ak3
 |makeFunc fn l m=>exact Ze.mon
 |slice t x lo hi mx=>exact Aen.mon
 |fieldAddr s x f=>exact Zd.mon
 |field s x f=>exact Aeg.mon
 |indexAddr t x ix=>exact(Zf (σ:=σ)).mon
 |index t x ix=>exact Aeh.mon
 |extract x j=>exact Aef.mon
 |call c=>
  obtain⟨callee,args,ts⟩:=c;intro k k' hk h;simp only[aOp,Fe]at h⊢;cases callee with
  |value y=>
   cases y with
   |func f=>exact AT.mono h hk
   |tmp t=>exact Ahj k k' hk h
   |_=>exact h.elim
  |invoke r m=>exact h.elim
  |builtin b=>
   cases b<;>simp only at h⊢
   case len=>
    split at h
    ·exact Aei.mon k k' hk h
    ·exact h.elim
   case append=>
    split at h
    ·split at h
     ·rename_i hn;rw[if_pos hn];exact Apb k k' hk h
     ·rename_i hn;rw[if_neg hn];exact Ak2 k k' hk h
    ·exact h.elim
   all_goals exact Aso k k' hk h
 |_=>exact fun k k' hk h=>hm k k' hk h
def cls(P:Program):Op→Nat
 | .move _| .assign _| .pick .. | .build .. | .buildSlice .. | .nilCheck _| .unOp .. | .makeFunc .. | .fieldAddr .. | .field .. | .indexAddr .. | .index .. | .extract .. =>0
 | .load .. | .slice .. | .lookup .. =>1
 | .makeInterface .. =>0
 | .typeAssert _ _ _ ok=>if ok then 2 else 0
 | .binOp _ t _ _ _=>if Fi P t then 2 else 0
 | .call c=>match c.callee with
  | .builtin .len| .builtin .min| .builtin .max=>0
  |_=>2
 | .convert s d _=>match tk P s,tk P d with
  |some i,some j=>match i.td,j.td with
   | .int _,.int _=>0
   | .str,.str=>0
   | .sl q _ _ byt,.str=>if q=1∧byt=true then 1 else 2
   |_,_=>2
  |_,_=>2
 |_=>2
def Yl(P:Program)(o:Op)(fr:Fr)(σ:St)(v:AV):Prop:=∀k:AV→St→Prop,k v σ→aOp P o fr σ k
theorem Det.yl{T:(AV→Prop)→Prop}(h:Det T){σ:St}{k:AV→St→Prop}(ht:T fun v=>k v σ):∃v,k v σ∧∀k':AV→St→Prop,k' v σ→T fun v=>k' v σ:=by
 obtain⟨v,h1,h2⟩:=h _ ht;exact⟨v,h1,fun k' hk=>h2 _ hk⟩
theorem N4{P:Program}{o:Op}{fr:Fr}{σ:St}{k:AV→St→Prop}(hc:cls P o≠2)(h:aOp P o fr σ k):∃v,k v σ∧Yl P o fr σ v:=by
 cases o with
 |move x=>exact⟨_,h,fun k' hk=>hk⟩
 |assign x=>exact⟨_,h,fun k' hk=>hk⟩
 |pick c x y=>exact Zj.yl h
 |build t ps=>exact U8.yl h
 |buildSlice t n ps=>exact S5.yl h
 |load t x=>exact Zg.yl h
 |nilCheck x=>exact Aem.yl h
 |binOp op t x y ty=>
  have hsl:Fi P t=false:=by
   simp only[cls]at hc;cases hq:Fi P t with
   |false=>rfl
   |true=>rw[hq]at hc;exact absurd rfl hc
  exact(Am2 hsl).yl h
 |unOp op t x=>exact Aiv.yl h
 |makeFunc fn l m=>exact Ze.yl h
 |slice t x lo hi mx=>exact Aen.yl h
 |fieldAddr s x f=>exact Zd.yl h
 |field s x f=>exact Aeg.yl h
 |indexAddr t x ix=>exact(Zf (σ:=σ)).yl h
 |index t x ix=>exact Aeh.yl h
 |extract x j=>exact Aef.yl h
 |convert s d x=>
  unfold Yl;simp only[aOp]at h⊢;simp only[cls]at hc;cases hi:tk P s with
  |none=>rw[hi]at h;exact h.elim
  |some i=>
   cases hj:tk P d with
   |none=>rw[hi,hj]at h;exact h.elim
   |some j=>
    obtain⟨ag,sz,zr,td⟩:=i;obtain⟨ag',sz',zr',td'⟩:=j;rw[hi,hj]at h;rw[hi,hj]at hc;cases td<;>cases td'<;>try (exact absurd rfl hc)
    ·generalize fr.ev x=y at h⊢
     cases y with
     |v y=>cases y with
      |int ik m=>exact⟨_,h,fun k' hk=>hk⟩
      |_=>exact False.elim h
     |_=>exact False.elim h
    ·generalize fr.ev x=y at h⊢
     cases y with
     |v y=>cases y with
      |string s=>exact⟨_,h,fun k' hk=>hk⟩
      |_=>exact False.elim h
     |_=>exact False.elim h
    ·rename_i q eby ez byt
     obtain⟨rfl,rfl⟩:q=1∧byt=true:=by
      have hc2:(if q=1∧byt=true then 1 else 2)≠2:=hc;split at hc2
      ·assumption
      ·exact absurd rfl hc2
     obtain⟨es,h1,h2,h3⟩:=h;exact⟨_,h3,fun k' hk=>⟨es,h1,h2,hk⟩⟩
 |call c=>
  obtain⟨callee,args,ts⟩:=c;unfold Yl;simp only[aOp,Fe]at h⊢;simp only[cls]at hc;split at hc
  ·simp only at h⊢
   split at h
   ·exact Aei.yl h
   ·exact h.elim
  ·simp only[aBI]at h⊢
   split at h
   ·exact Aek.yl h
   ·exact h.elim
  ·simp only[aBI]at h⊢
   split at h
   ·exact Aej.yl h
   ·exact h.elim
  ·exact absurd rfl hc
 |lookup t m x ok=>
  unfold Yl;simp only[aOp,Dv]at h⊢;exact Zh.yl h
 |makeInterface t x=>
  unfold Yl;simp only[aOp,Dv]at h⊢;exact Ael.yl h
 |typeAssert x t u ok=>
  cases ok with
  |true=>exact absurd rfl hc
  |false=>
   unfold Yl;simp only[aOp,Dv]at h⊢;exact Aeo.yl h
 |_=>exact absurd rfl hc
theorem Yl.any{P:Program}{o:Op}{fr:Fr}{σ:St}{v:AV}(hc:cls P o=0)(h:Yl P o fr σ v)(σ':St):Yl P o fr σ' v:=by
 have tr:∀(T:(AV→Prop)→Prop),(∀k:AV→St→Prop,k v σ→T fun v=>k v σ)→∀k:AV→St→Prop,k v σ'→T fun v=>k v σ':=fun T h k hk=>h (fun v _=>k v σ') hk;cases o with
 |move x=>exact tr (fun K=>K (fr.ev x)) h
 |assign x=>exact tr (fun K=>K (fr.ev x)) h
 |pick c x y=>exact tr (Jm (fr.ev c) (fr.ev x) (fr.ev y)) h
 |build t ps=>exact tr (H8 (tk P t) (evs fr.ev ps.toList)) h
 |buildSlice t n ps=>exact tr (Hc (tk P t) n (evs fr.ev ps.toList)) h
 |nilCheck x=>exact tr (Qb (fr.ev x)) h
 |binOp op t x y ty=>exact tr (D9 P op t (fr.ev x) (fr.ev y)) h
 |unOp op t x=>exact tr (aUn op (fr.ev x)) h
 |makeFunc fn l m=>exact tr (Fq fn fr.ev l.toList m.toList) h
 |fieldAddr s x f=>exact tr (I3 (tk P s) f (fr.ev x)) h
 |field s x f=>exact tr (N1 (tk P s) f (fr.ev x)) h
 |indexAddr t x ix=>exact tr (Fs (tk P t) σ (fr.ev x) (fr.ev ix)) h
 |index t x ix=>exact tr (Sg (tk P t) (fr.ev x) (fr.ev ix)) h
 |extract x j=>exact tr (Hp (fr.ev x) j) h
 |convert s d x=>
  unfold Yl at h⊢;simp only[aOp]at h⊢;simp only[cls]at hc;cases hi:tk P s with
  |none=>rw[hi]at hc;simp at hc
  |some i=>
   cases hj:tk P d with
   |none=>rw[hi,hj]at hc;simp at hc
   |some j=>
    obtain⟨ag,sz,zr,td⟩:=i;obtain⟨ag',sz',zr',td'⟩:=j;rw[hi,hj]at h;rw[hi,hj]at hc;cases td<;>cases td'<;>try (cases hc;done)
    ·generalize fr.ev x=y at h⊢
     cases y with
     |v y=>cases y with
      |int ik m=>exact tr (fun K=>K _) h
      |_=>exact False.elim (h (fun _ _=>True) trivial)
     |_=>exact False.elim (h (fun _ _=>True) trivial)
    ·generalize fr.ev x=y at h⊢
     cases y with
     |v y=>cases y with
      |string s=>exact tr (fun K=>K _) h
      |_=>exact False.elim (h (fun _ _=>True) trivial)
     |_=>exact False.elim (h (fun _ _=>True) trivial)
    ·rename_i q eby ez byt
     have hc2:(if q=1∧byt=true then 1 else 2)=0:=hc;split at hc2<;>cases hc2
 |call c=>
  obtain⟨callee,args,ts⟩:=c;unfold Yl at h⊢;simp only[aOp,Fe]at h⊢;simp only[cls]at hc;split at hc
  ·simp only at h⊢
   split at h
   ·rename_i x t hx ht
    exact tr (K6 (tk P t) (fr.ev x)) h
   ·exact False.elim (h (fun _ _=>True) trivial)
  ·simp only[aBI]at h⊢
   split at h
   ·exact tr (aMin _ _) h
   ·exact False.elim (h (fun _ _=>True) trivial)
  ·simp only[aBI]at h⊢
   split at h
   ·exact tr (aMax _ _) h
   ·exact False.elim (h (fun _ _=>True) trivial)
  ·cases hc
 |makeInterface t x=>
  unfold Yl at h⊢;simp only[aOp,Dv]at h⊢;exact tr (aMkI P t (fr.ev x)) h
 |typeAssert x t u ok=>
  cases ok with
  |true=>cases hc
  |false=>
   unfold Yl at h⊢;simp only[aOp,Dv]at h⊢;exact tr (aTyA P u (fr.ev x)) h
 |_=>cases hc
class Bx (α:Type) where
 val:α
def hid{α:Type}[c:Bx α]:α:=c.val
@[go_sem] theorem Avn{α β:Type}{f:α→β}{a:α}:(@hid (α→β) ⟨f⟩) a=f a:=_root_.id rfl
section
variable{P:Program}
@[go_sem] theorem Ayt{K:AK}{fr:Fr}{σ:St}:A7 P .skip K fr σ=K .normal fr σ:=_root_.id rfl
@[go_sem] theorem Aui{id:Nat}{l:List Oper}{K:AK}{fr:Fr}{σ:St}:A7 P (.region id l.toArray false) K fr σ=M1 P (l.map (·.dst)) l (@hid _ ⟨K .normal⟩) fr σ:=_root_.id rfl
@[go_sem] theorem Ayj{id:Nat}{ops:Array Oper}{K:AK}{fr:Fr}{σ:St}:A7 P (.region id ops true) K fr σ=U1 P ops (@hid _ ⟨K .normal⟩) fr σ:=_root_.id rfl
@[go_sem] theorem Bbb{x y:Code}{K:AK}{fr:Fr}{σ:St}:A7 P (.seq x y) K fr σ=A7 P x (@hid _ ⟨AK.then (A7 P y K) K⟩) fr σ:=_root_.id rfl
@[go_sem] theorem Ayh{c:Operand}{x y:Code}{K:AK}{fr:Fr}{σ:St}:A7 P (.cond c x y) K fr σ=Yu (fr.ev c) (@hid _ ⟨A7 P x K fr σ⟩) (@hid _ ⟨A7 P y K fr σ⟩):=_root_.id rfl
theorem Aa{id:Nat}{x:Code}{K:AK}{fr:Fr}{σ:St}:A7 P (.block id x) K fr σ=A7 P x (@hid _ ⟨AK.block id K⟩) fr σ:=_root_.id rfl
@[go_sem] theorem Ayr{x:Code}{K:AK}{fr:Fr}{σ:St}:A7 P (.loop x) K fr σ=Aii (@hid _ ⟨A7 P x⟩) K fr σ:=_root_.id rfl
@[go_sem] theorem Ayk{id:Nat}{K:AK}{fr:Fr}{σ:St}:A7 P (.exit id) K fr σ=K (.exit id) fr σ:=_root_.id rfl
@[go_sem] theorem Awu{x:Code}{K:AK}{fr:Fr}{σ:St}:A7 P (.scope x) K fr σ=A7 P x (@hid _ ⟨AK.noGoto K⟩) fr σ:=_root_.id rfl
@[go_sem] theorem Bba{K:AK}{fr:Fr}{σ:St}:A7 P .ret K fr σ=K .ret fr σ:=_root_.id rfl
@[go_sem] theorem Awt{g:Operand}{l:List Nat}{x y:Code}{K:AK}{fr:Fr}{σ:St}:A7 P (.rangeFunc g l.toArray x y) K fr σ=K7 P (fr.ev g) l x y K fr σ:=_root_.id rfl
@[go_sem] theorem Aws{l:Nat}{K:AK}{fr:Fr}{σ:St}:A7 P (.label l) K fr σ=K .normal fr σ:=_root_.id rfl
@[go_sem] theorem Aul{A:Fr→St→Prop}{K:AK}{fr:Fr}{σ:St}:AK.then A K .normal fr σ=A fr σ:=_root_.id rfl
@[go_sem] theorem Atn{A:Fr→St→Prop}{K:AK}:AK.then A K .normal=A:=_root_.id rfl
@[go_sem] theorem Auj{A:Fr→St→Prop}{K:AK}{id:Nat}{fr:Fr}{σ:St}:AK.then A K (.exit id) fr σ=K (.exit id) fr σ:=_root_.id rfl
@[go_sem] theorem Auk{A:Fr→St→Prop}{K:AK}{id:Nat}{fr:Fr}{σ:St}:AK.then A K (.goto id) fr σ=K (.goto id) fr σ:=_root_.id rfl
@[go_sem] theorem Aum{A:Fr→St→Prop}{K:AK}{fr:Fr}{σ:St}:AK.then A K .ret fr σ=K .ret fr σ:=_root_.id rfl
@[go_sem] theorem Atl{K:AK}{id:Nat}{fr:Fr}{σ:St}:AK.block id K .normal fr σ=K .normal fr σ:=_root_.id rfl
@[go_sem] theorem Asv{K:AK}{id:Nat}:AK.block id K .normal=K .normal:=_root_.id rfl
@[go_sem] theorem Atj{K:AK}{id j:Nat}{fr:Fr}{σ:St}:AK.block id K (.exit j) fr σ=if j=id then K .normal fr σ else K (.exit j) fr σ:=_root_.id rfl
@[go_sem] theorem Atk{K:AK}{id j:Nat}{fr:Fr}{σ:St}:AK.block id K (.goto j) fr σ=K (.goto j) fr σ:=_root_.id rfl
@[go_sem] theorem Atm{K:AK}{id:Nat}{fr:Fr}{σ:St}:AK.block id K .ret fr σ=K .ret fr σ:=_root_.id rfl
@[go_sem] theorem Ayl{Q:AV→St→Prop}{l:List ResultVar}{fr:Fr}{σ:St}:AK.fn P Q l .normal fr σ=Dw P Q l fr σ:=_root_.id rfl
@[go_sem] theorem Aym{Q:AV→St→Prop}{l:List ResultVar}{fr:Fr}{σ:St}:AK.fn P Q l .ret fr σ=Dw P Q l fr σ:=_root_.id rfl
@[go_sem] theorem Ba8{ds:List (Option Nat)}{K:Fr→St→Prop}{fr:Fr}{σ:St}:M1 P ds [] K fr σ=K fr σ:=_root_.id rfl
@[go_sem] theorem Ayi{ds:List (Option Nat)}{d:Option Nat}{op:Op}{t:TypeId}{p:String}{e:Array Edge}{l:List Oper}{K:Fr→St→Prop}{fr:Fr}{σ:St}:
  M1 P ds ({dst:=d,op:=op,type:=t,pos:=p,after:=e,guard:=none}::l) K fr σ=aOp P op fr σ (@hid _ ⟨fun v σ'=>M1 P ds l K (fr.put d v) σ'⟩):=_root_.id rfl
@[go_sem] theorem Awq{ds:List (Option Nat)}{d:Option Nat}{op:Op}{t:TypeId}{p:String}{e:Array Edge}{g:Nat×Bool}{l:List Oper}{K:Fr→St→Prop}{fr:Fr}{σ:St}:
  M1 P ds ({dst:=d,op:=op,type:=t,pos:=p,after:=e,guard:=some g}::l) K fr σ=aGd ds fr (some g) (@hid _ ⟨aOp P op fr σ (@hid _ ⟨fun v σ'=>M1 P ds l K (fr.put d v) σ'⟩)⟩) (@hid _ ⟨M1 P ds l K (fr.put d (.v undef)) σ⟩):=_root_.id rfl
def aGd1(x:AV)(want:Bool)(A B:Prop):Prop:=
 match x with
 | .v (.bool b)=>if want then aIf b A B else aIf b B A
 | .v _=>B
 |_=>False
@[go_sem] theorem Ba7{want:Bool}{A B:Prop}:aGd1 (.v undef) want A (@hid _ ⟨B⟩)=B:=_root_.id rfl
@[go_sem] theorem Ba5{d:Nat}{ds:List (Option Nat)}{fr:Fr}{want:Bool}{A B:Prop}:aGd (some d::ds) fr (some (0,want)) A B=aGd1 (fr d) want A B:=_root_.id rfl
@[go_sem] theorem Ba6{d:Option Nat}{ds:List (Option Nat)}{fr:Fr}{j:Nat}{want:Bool}{A B:Prop}:aGd (d::ds) fr (some (j+1,want)) A B=aGd ds fr (some (j,want)) A B:=_root_.id rfl
@[go_sem] theorem Ayo{b:Bool}{A B:Prop}:aGd1 (.v (.bool b)) true A B=aIf b A B:=_root_.id rfl
@[go_sem] theorem Ayn{b:Bool}{A B:Prop}:aGd1 (.v (.bool b)) false A B=aIf b B A:=_root_.id rfl
@[go_sem] theorem Awp{b:Bool}{A B:Prop}:Yu (.v (.bool b)) A B=aIf b A B:=_root_.id rfl
@[go_sem] theorem Ayq{A B:Prop}:aIf true (@hid _ ⟨A⟩) B=A:=_root_.id rfl
@[go_sem] theorem Ayp{A B:Prop}:aIf false A (@hid _ ⟨B⟩)=B:=by simp[aIf,hid]
@[go_sem] theorem Auh{b:Bool}{A B:Prop}:aIf (!b) A B=aIf b B A:=by cases b<;>simp[aIf]
theorem aIf_by{p:Prop}[Decidable p]{A B:Prop}(h1:p→A)(h2:¬p→B):aIf (decide p) (@hid _ ⟨A⟩) (@hid _ ⟨B⟩):=by
 unfold aIf;by_cases h:p
 ·rw[if_pos (by simpa using h)];exact h1 h
 ·rw[if_neg (by simpa using h)];exact h2 h
theorem aIf_bool{b:Bool}{A B:Prop}(h1:b=true→A)(h2:b=false→B):aIf b (@hid _ ⟨A⟩) (@hid _ ⟨B⟩):=by
 unfold aIf;cases b
 ·rw[if_neg (by simp)];exact h2 rfl
 ·rw[if_pos rfl];exact h1 rfl
@[go_sem] theorem r_up{fr:Fr}{t x:Nat}{v:AV}:(fr.up t v) x=if x=t then v else fr x:=_root_.id rfl
@[go_sem] theorem Ba9{fr:Fr}{t:Nat}{v:AV}:fr.put (some t) v=fr.up t v:=_root_.id rfl
@[go_sem] theorem Ays{fr:Fr}{v:AV}:fr.put none v=fr:=_root_.id rfl
@[go_sem] theorem Ba3{fr:Fr}{t:Nat}:fr.ev (.tmp t)=fr t:=_root_.id rfl
@[go_sem] theorem Ba1{fr:Fr}{v:Value}:fr.ev (.const v)=ofConst v:=_root_.id rfl
@[go_sem] theorem Ba2{fr:Fr}{f:Nat}:fr.ev (.func f)= .v (.func (.func f) #[] #[]):=_root_.id rfl
@[go_sem] theorem r_c1{k:IntKind}{x:Int}:ofConst (.int k x)= .v (.int k x):=_root_.id rfl
@[go_sem] theorem r_c2{x:Bool}:ofConst (.bool x)= .v (.bool x):=_root_.id rfl
@[go_sem] theorem r_c3{x:ByteArray}:ofConst (.string x)= .v (.string x):=_root_.id rfl
@[go_sem] theorem r_c4{x:Option Addr}:ofConst (.pointer x)= .v (.pointer x):=_root_.id rfl
@[go_sem] theorem r_c5{x:Option Addr}{l c:Nat}:ofConst (.slice x l c)= .v (.slice x l c):=_root_.id rfl
@[go_sem] theorem r_c6{l:List Value}:ofConst (.agg l.toArray)= .agg (l.map .v):=_root_.id rfl
@[go_sem] theorem r_c7{x:Option Nat}:ofConst (.map x)= .v (.map x):=_root_.id rfl
@[go_sem] theorem r_c8:ofConst .nilFunc= .v .nilFunc:=_root_.id rfl
@[go_sem] theorem r_c9:ofConst .nilIface= .v .nilIface:=_root_.id rfl
@[go_sem] theorem Awr{args:List AV}{t:Nat}:I6 args t=args.getD t (.v undef):=_root_.id rfl
def aIfT(b:Bool)(A B:Prop):Prop:=if b=true then A else B
@[go_sem] theorem Az5{A B:Prop}:aIfT true (@hid _ ⟨A⟩) B=A:=_root_.id rfl
@[go_sem] theorem Az4{A B:Prop}:aIfT false A (@hid _ ⟨B⟩)=B:=_root_.id rfl
section
variable{fr:Fr}{σ:St}{k:AV→St→Prop}{K:AV→Prop}
@[go_sem] theorem Ayb{x:Operand}:aOp P (.move x) fr σ k=k (fr.ev x) σ:=_root_.id rfl
@[go_sem] theorem Aud{x:Operand}:aOp P (.assign x) fr σ k=k (fr.ev x) σ:=_root_.id rfl
@[go_sem] theorem Ayc{c x y:Operand}:aOp P (.pick c x y) fr σ k=Jm (fr.ev c) (fr.ev x) (fr.ev y) (@hid _ ⟨fun v=>k v σ⟩):=_root_.id rfl
@[go_sem] theorem Awg{e:TypeId}:aOp P (.alloc e) fr σ k=K4 (tk P e) σ k:=_root_.id rfl
@[go_sem] theorem Ban{e:TypeId}{x:Operand}:aOp P (.box e x) fr σ k=aBox (fr.ev x) σ k:=_root_.id rfl
@[go_sem] theorem Awh{t:TypeId}{l:List (Nat×Operand)}:aOp P (.build t l.toArray) fr σ k=H8 (tk P t) (evs fr.ev l) (@hid _ ⟨fun v=>k v σ⟩):=_root_.id rfl
@[go_sem] theorem Aue{t:TypeId}{n:Nat}{l:List (Nat×Operand)}:aOp P (.buildSlice t n l.toArray) fr σ k=Hc (tk P t) n (evs fr.ev l) (@hid _ ⟨fun v=>k v σ⟩):=_root_.id rfl
@[go_sem] theorem Ax8{t:TypeId}{x:Operand}:aOp P (.load t x) fr σ k=Da (tk P t) σ (fr.ev x) (@hid _ ⟨fun v=>k v σ⟩):=_root_.id rfl
@[go_sem] theorem Awl{t:TypeId}{x y:Operand}:aOp P (.store t x y) fr σ k=Gq (tk P t) σ (fr.ev x) (fr.ev y) (@hid _ ⟨fun σ'=>k (.v undef) σ'⟩):=_root_.id rfl
@[go_sem] theorem Baw{x:Operand}:aOp P (.nilCheck x) fr σ k=Qb (fr.ev x) (@hid _ ⟨fun v=>k v σ⟩):=_root_.id rfl
@[go_sem] theorem Bam{op:BinOp}{t ty:TypeId}{x y:Operand}:aOp P (.binOp op t x y ty) fr σ k=D9 P op t (fr.ev x) (fr.ev y) (@hid _ ⟨fun v=>k v σ⟩):=_root_.id rfl
@[go_sem] theorem o_un{op:UnOp}{t:TypeId}{x:Operand}:aOp P (.unOp op t x) fr σ k=aUn op (fr.ev x) (@hid _ ⟨fun v=>k v σ⟩):=_root_.id rfl
@[go_sem] theorem Ax3{s d:TypeId}{x:Operand}:aOp P (.convert s d x) fr σ k=Ji (tk P s) (tk P d) σ (fr.ev x) k:=_root_.id rfl
@[go_sem] theorem Ax6{fn:Fn}{l m:List Operand}:aOp P (.makeFunc fn l.toArray m.toArray) fr σ k=Fq fn fr.ev l m (@hid _ ⟨fun v=>k v σ⟩):=_root_.id rfl
@[go_sem] theorem Bax{t:TypeId}{x:Operand}{lo hi mx:Option Operand}:aOp P (.slice t x lo hi mx) fr σ k=aSli (tk P t) σ (fr.ev x) (lo.map fr.ev) (hi.map fr.ev) (mx.map fr.ev) (@hid _ ⟨fun v=>k v σ⟩):=_root_.id rfl
@[go_sem] theorem Ax5{s f:Nat}{x:Operand}:aOp P (.fieldAddr s x f) fr σ k=I3 (tk P s) f (fr.ev x) (@hid _ ⟨fun v=>k v σ⟩):=_root_.id rfl
@[go_sem] theorem Baq{s f:Nat}{x:Operand}:aOp P (.field s x f) fr σ k=N1 (tk P s) f (fr.ev x) (@hid _ ⟨fun v=>k v σ⟩):=_root_.id rfl
@[go_sem] theorem Ax7{t:TypeId}{x ix:Operand}:aOp P (.indexAddr t x ix) fr σ k=Fs (tk P t) σ (fr.ev x) (fr.ev ix) (@hid _ ⟨fun v=>k v σ⟩):=_root_.id rfl
@[go_sem] theorem Bar{t:TypeId}{x ix:Operand}:aOp P (.index t x ix) fr σ k=Sg (tk P t) (fr.ev x) (fr.ev ix) (@hid _ ⟨fun v=>k v σ⟩):=_root_.id rfl
@[go_sem] theorem Bap{x:Operand}{j:Nat}:aOp P (.extract x j) fr σ k=Hp (fr.ev x) j (@hid _ ⟨fun v=>k v σ⟩):=_root_.id rfl
@[go_sem] theorem Awi{f:FuncId}{l:List Operand}{ts:Array TypeId}:aOp P (.call {callee:=.value (.func f),args:=l.toArray,argTypes:=ts}) fr σ k=AT P f (l.map fr.ev) σ k:=_root_.id rfl
@[go_sem] theorem Awj{t:Nat}{l:List Operand}{ts:Array TypeId}:aOp P (.call {callee:=.value (.tmp t),args:=l.toArray,argTypes:=ts}) fr σ k=Ka P (fr t) (l.map fr.ev) σ k:=_root_.id rfl
@[go_sem] theorem Arz{f:FuncId}{l m:List Value}{args:List AV}:Ka P (.v (.func (.func f) l.toArray m.toArray)) args σ k=AT P f (l.map .v++args++m.map .v) σ k:=_root_.id rfl
@[go_sem] theorem Aqc{l:Nat}{args:List AV}:Ka P (.v (.func (.yield l) #[] #[])) args σ k=YC P l args σ k:=by simp[Ka]
@[go_sem] theorem Asu{fr:Fr}{p:Nat}{ps:List Nat}{a:AV}{as:List AV}:Pn fr (p::ps) (a::as)=Pn (fr.up p a) ps as:=_root_.id rfl
@[go_sem] theorem Ati{fr:Fr}{as:List AV}:Pn fr [] as=fr:=by cases as<;>rfl
@[go_sem] theorem Bas{x:Operand}{t:TypeId}:aOp P (.call {callee:=.builtin .len,args:=#[x],argTypes:=#[t]}) fr σ k=K6 (tk P t) (fr.ev x) (@hid _ ⟨fun v=>k v σ⟩):=_root_.id rfl
@[go_sem] theorem Bal{s x:Operand}{t1 t2:TypeId}:aOp P (.call {callee:=.builtin .append,args:=#[s,x],argTypes:=#[t1,t2]}) fr σ k=aIfT (Nu (tk P t2)) (@hid _ ⟨aApp (tk P t1) σ (fr.ev s) (fr.ev x) k⟩) (@hid _ ⟨aAppN (tk P t1) (tk P t2) σ (fr.ev s) (fr.ev x) k⟩):=_root_.id rfl
@[go_sem] theorem Bao{x:Operand}{t:TypeId}:aOp P (.call {callee:=.builtin .cap,args:=#[x],argTypes:=#[t]}) fr σ k=aCap (tk P t) (fr.ev x) (@hid _ ⟨fun v=>k v σ⟩):=_root_.id rfl
@[go_sem] theorem Azb{ag byt:Bool}{sz q eby:Nat}{zr ez:List Value}{ad:Option Addr}{n c:Nat}:aCap (some ⟨ag,sz,zr,.sl q eby ez byt⟩) (.v (.slice ad n c)) K=K (.v (.int .i64 c)):=_root_.id rfl
@[go_sem] theorem Ax4{x y:Operand}{t t2:TypeId}:aOp P (.call {callee:=.builtin .copy,args:=#[x,y],argTypes:=#[t,t2]}) fr σ k=U0 (tk P t) σ (fr.ev x) (fr.ev y) k:=_root_.id rfl
@[go_sem] theorem Bau{x y:Operand}{ts:Array TypeId}:aOp P (.call {callee:=.builtin .min,args:=#[x,y],argTypes:=ts}) fr σ k=aMin (fr.ev x) (fr.ev y) (@hid _ ⟨fun v=>k v σ⟩):=_root_.id rfl
@[go_sem] theorem Bat{x y:Operand}{ts:Array TypeId}:aOp P (.call {callee:=.builtin .max,args:=#[x,y],argTypes:=ts}) fr σ k=aMax (fr.ev x) (fr.ev y) (@hid _ ⟨fun v=>k v σ⟩):=_root_.id rfl
@[go_sem] theorem Bag{i j:IntKind}{x y:Int}:aMin (.v (.int i x)) (.v (.int j y)) K=K (.v (.int i (min x y))):=_root_.id rfl
@[go_sem] theorem Baf{i j:IntKind}{x y:Int}:aMax (.v (.int i x)) (.v (.int j y)) K=K (.v (.int i (max x y))):=_root_.id rfl
@[go_sem] theorem Av4{ik:IntKind}{x y:Int}:Ga .shl ik x y K=(0≤y∧K (.v (.int ik (ik.wrap (x*2^min y.toNat ik.bits))))):=_root_.id rfl
@[go_sem] theorem Av5{ik:IntKind}{x y:Int}:Ga .shr ik x y K=(0≤y∧K (.v (.int ik (x.fdiv (2^min y.toNat ik.bits))))):=_root_.id rfl
@[go_sem] theorem Awk{x:Operand}{t:TypeId}:aOp P (.call {callee:=.builtin .clear,args:=#[x],argTypes:=#[t]}) fr σ k=aClear (tk P t) σ (fr.ev x) k:=_root_.id rfl
@[go_sem] theorem Ate{i:TK}{a c:Nat}{q eby:Nat}{ez:List Value}{byt ag:Bool}{sz:Nat}{zr:List Value}:aClear (some ⟨ag,sz,zr,.sl q eby ez byt⟩) σ (.v (.slice none a c)) k=k (.tup []) σ:=_root_.id rfl
@[go_sem] theorem Auf{x y:Operand}{t t2:TypeId}:aOp P (.call {callee:=.builtin .delete,args:=#[x,y],argTypes:=#[t,t2]}) fr σ k=Kb P (tk P t) σ (fr.ev x) (fr.ev y) k:=_root_.id rfl
@[go_sem] theorem Ax9{t:TypeId}{x y:Operand}{ok:Bool}:aOp P (.lookup t x y ok) fr σ k=M7 P (tk P t) σ (fr.ev x) (fr.ev y) ok (@hid _ ⟨fun v=>k v σ⟩):=_root_.id rfl
@[go_sem] theorem Aug{t:TypeId}{m x y:Operand}:aOp P (.mapUpdate t m x y) fr σ k=Kc P (tk P t) σ (fr.ev m) (fr.ev x) (fr.ev y) (@hid _ ⟨fun σ'=>k (.v undef) σ'⟩):=_root_.id rfl
@[go_sem] theorem Bav{t:TypeId}{x:Operand}:aOp P (.makeInterface t x) fr σ k=aMkI P t (fr.ev x) (@hid _ ⟨fun v=>k v σ⟩):=_root_.id rfl
@[go_sem] theorem Bay{t u:TypeId}{x:Operand}:aOp P (.typeAssert x t u false) fr σ k=aTyA P u (fr.ev x) (@hid _ ⟨fun v=>k v σ⟩):=_root_.id rfl
@[go_sem] theorem Bah{t:TypeId}{y:Value}:aMkI P t (.v y) K=(Ll P t=true∧K (.v (.iface t y))):=_root_.id rfl
@[go_sem] theorem Bcb{u t:TypeId}{y:Value}:aTyA P u (.v (.iface t y)) K=(Ll P u=true∧t=u∧K (.v y)):=_root_.id rfl
def Auy(kd:TD)(z:AV)(ob:Option Cj)(x:Value)(ok:Bool)(K:AV→Prop):Prop:=
 match ob with
 |some (.map kv)=>Lo kd x=true∧(∀p∈kv,Lo kd p.1=true)∧match Rj x kv with
  |some u=>K (if ok then .tup [u,.v (.bool true)]else u)
  |none=>K (if ok then .tup [z,.v (.bool false)]else z)
 |_=>False
def aNew(σ:St)(t:Cj)(k:AV→St→Prop):Prop:=∀b,σ b=none→k (.v (.pointer (some ⟨b,0,none⟩))) (σ.set b t)
theorem Ay{t:Cj}(h:∀b,σ b=none→(∀x o,σ x=some o→x≠b)→k (.v (.pointer (some ⟨b,0,none⟩))) (σ.set b t)):aNew σ t k:=
 fun b hb=>h b hb fun x o hx e=>by subst e;rw[hb]at hx;cases hx
@[go_sem] theorem Ayf{x y:AV}:Jm (.v (.bool true)) x y K=K x:=by simp[Jm]
@[go_sem] theorem Aye{x y:AV}:Jm (.v (.bool false)) x y K=K y:=by simp[Jm]
@[go_sem] theorem Auz{i:TK}:K4 (some i) σ k=aNew σ (.cells (i.zr.map .v)) k:=_root_.id rfl
@[go_sem] theorem Ay6{x:AV}:aBox x σ k=(x.cells.all AV.one=true∧aNew σ (.cells x.cells) k):=_root_.id rfl
@[go_sem] theorem Ats{ag:Bool}{sz:Nat}{zr:List Value}{fs:List (Nat×Nat×Bool)}{ps:List (Nat×AV)}:H8 (some ⟨ag,sz,zr,.st fs⟩) ps K=Hg (@hid _ ⟨fun j=>(fs[j]?).map fun f=>(f.1,f.2.1)⟩) K (zr.map .v) ps:=_root_.id rfl
@[go_sem] theorem Atb{ag:Bool}{sz n esz:Nat}{eag:Bool}{zr:List Value}{ps:List (Nat×AV)}:H8 (some ⟨ag,sz,zr,.arr n esz eag⟩) ps K=Hg (@hid _ ⟨fun j=>some (j*esz,esz)⟩) K (zr.map .v) ps:=_root_.id rfl
@[go_sem] theorem At6{fs:Nat→Option (Nat×Nat)}{cs:List AV}:Hg fs K cs []=K (.agg cs):=_root_.id rfl
def Abx(q:Option (Nat×Nat))(cs:List AV)(x:List AV)(k:List AV→Prop):Prop:=
 match q with
 |some (off,sz)=>x.length=sz∧off+sz≤cs.length∧k (Az cs off x)
 |none=>False
@[go_sem] theorem Awo{off sz:Nat}{cs x:List AV}{k:List AV→Prop}:Abx (some (off,sz)) cs x k=(x.length=sz∧off+sz≤cs.length∧k (Az cs off x)):=_root_.id rfl
@[go_sem] theorem Atg{fs:Nat→Option (Nat×Nat)}{cs:List AV}{j:Nat}{x:AV}{r:List (Nat×AV)}:Hg fs K cs ((j,x)::r)=Abx (fs j) cs x.cells (@hid _ ⟨fun cs'=>Hg fs K cs' r⟩):=by
 simp only[Hg,Abx,hid];cases fs j with
 |none=>rfl
 |some q=>rfl
@[go_sem] theorem Atr{ag:Bool}{sz esz eby:Nat}{zr ez:List Value}{byt:Bool}{n:Nat}{ps:List (Nat×AV)}:Hc (some ⟨ag,sz,zr,.sl esz eby ez byt⟩) n ps K=(0<esz∧n*esz≤16777216∧ez.all Value.oneCell'=true∧Hq esz (@hid _ ⟨fun es=>K (.fsl esz es)⟩) (List.replicate n (ez.map .v)) ps):=_root_.id rfl
@[go_sem] theorem Atf{q:Nat}{k:List (List AV)→Prop}{es:List (List AV)}:Hq q k es []=k es:=_root_.id rfl
@[go_sem] theorem Asd{q:Nat}{k:List (List AV)→Prop}{es:List (List AV)}{j:Nat}{x:AV}{r:List (Nat×AV)}:Hq q k es ((j,x)::r)=(j<es.length∧x.cells.length=q∧x.cells.all AV.one=true∧Hq q k (es.set j x.cells) r):=_root_.id rfl
def K5(ag:Bool)(sz o:Nat)(cs:List AV)(K:AV→Prop):Prop:=if ag then o+sz≤cs.length∧K (.agg ((cs.drop o).take sz))else o<cs.length∧K (cs.getD o (.v undef))
def Abw(ag:Bool)(sz o:Nat)(t:Option Cj)(K:AV→Prop):Prop:=
 match t with
 |some (.cells cs)=>K5 ag sz o cs K
 |_=>False
def Wr(ag:Bool)(sz q j f:Nat)(t:Option Cj)(K:AV→Prop):Prop:=
 match t with
 |some (.rows q' es _ _)=>q'=q∧j<es.length∧(if ag then f+sz≤q∧K (.agg (((es.getD j []).drop f).take sz))else f<q∧K ((es.getD j []).getD f (.v undef)))
 |_=>False
@[go_sem] theorem Axz{ag:Bool}{sz:Nat}{zr:List Value}{td:TD}{b o:Nat}:Da (some ⟨ag,sz,zr,td⟩) σ (.v (.pointer (some ⟨b,o,none⟩))) K=Abw ag sz o (σ b) K:=by
 simp only[Da,Abw];cases σ b with
 |none=>rfl
 |some t=>cases t<;>rfl
@[go_sem] theorem Awe{ag:Bool}{sz:Nat}{zr:List Value}{td:TD}{cs:List AV}:Da (some ⟨ag,sz,zr,td⟩) σ (.fp cs) K=K5 ag sz 0 cs K:=by
 simp[Da,K5]
@[go_sem] theorem Awf{ag:Bool}{sz:Nat}{zr:List Value}{td:TD}{b q j f:Nat}:Da (some ⟨ag,sz,zr,td⟩) σ (.rp b q j f) K=Wr ag sz q j f (σ b) K:=by
 simp only[Da,Wr];cases σ b with
 |none=>rfl
 |some t=>cases t<;>rfl
@[go_sem] theorem Awc{ag:Bool}{sz o:Nat}{cs:List AV}:Abw ag sz o (some (.cells cs)) K=K5 ag sz o cs K:=_root_.id rfl
def P9(ag:Bool)(sz f q:Nat)(cs:List AV)(K:AV→Prop):Prop:=if ag then f+sz≤q∧K (.agg ((cs.drop f).take sz))else f<q∧K (cs.getD f (.v undef))
@[go_sem] theorem Awd{ag:Bool}{sz q j f:Nat}{es:List (List AV)}{frz:Bool}{cap:Nat}:Wr ag sz q j f (some (.rows q es frz cap)) K=(j<es.length∧P9 ag sz f q (es.getD j []) K):=by
 simp[Wr,P9]
@[go_sem] theorem Au6{sz o:Nat}{cs:List AV}:K5 true sz o cs K=(o+sz≤cs.length∧K (.agg ((cs.drop o).take sz))):=by simp[K5]
@[go_sem] theorem Au7{sz o:Nat}{cs:List AV}:K5 false sz o cs K=(o<cs.length∧K (cs.getD o (.v undef))):=by simp[K5]
@[go_sem] theorem Atv{sz f q:Nat}{cs:List AV}:P9 true sz f q cs K=(f+sz≤q∧K (.agg ((cs.drop f).take sz))):=by simp[P9]
@[go_sem] theorem Atw{sz f q:Nat}{cs:List AV}:P9 false sz f q cs K=(f<q∧K (cs.getD f (.v undef))):=by simp[P9]
def Ws(sz b o:Nat)(t:Option Cj)(σ:St)(x:List AV)(k:St→Prop):Prop:=
 match t with
 |some (.cells cs)=>o+sz≤cs.length∧k (σ.set b (.cells (Az cs o x)))
 |_=>False
def Ru(sz b q j f:Nat)(t:Option Cj)(σ:St)(x:List AV)(k:St→Prop):Prop:=
 match t with
 |some (.rows q' es false cap)=>q'=q∧j<es.length∧f+sz≤q∧k (σ.set b (.rows q (es.set j (Az (es.getD j []) f x)) false cap))
 |_=>False
@[go_sem] theorem Awx{ag:Bool}{sz:Nat}{zr:List Value}{td:TD}{b o:Nat}{x:AV}{k:St→Prop}:Gq (some ⟨ag,sz,zr,td⟩) σ (.v (.pointer (some ⟨b,o,none⟩))) x k=(x.cells.length=sz∧x.cells.all AV.one=true∧Ws sz b o (σ b) σ x.cells k):=by
 simp only[Gq,Ws];cases σ b with
 |none=>rfl
 |some t=>cases t<;>rfl
@[go_sem] theorem Aur{ag:Bool}{sz:Nat}{zr:List Value}{td:TD}{b q j f:Nat}{x:AV}{k:St→Prop}:Gq (some ⟨ag,sz,zr,td⟩) σ (.rp b q j f) x k=(x.cells.length=sz∧x.cells.all AV.one=true∧Ru sz b q j f (σ b) σ x.cells k):=by
 simp only[Gq,Ru];cases σ b with
 |none=>rfl
 |some t=>
  cases t with
  |rows _ _ frz _=>cases frz<;>rfl
  |_=>rfl
@[go_sem] theorem Aup{sz b o:Nat}{cs x:List AV}{k:St→Prop}:Ws sz b o (some (.cells cs)) σ x k=(o+sz≤cs.length∧k (σ.set b (.cells (Az cs o x)))):=_root_.id rfl
@[go_sem] theorem Auq{sz b q j f:Nat}{es:List (List AV)}{cap:Nat}{x:List AV}{k:St→Prop}:Ru sz b q j f (some (.rows q es false cap)) σ x k=(j<es.length∧f+sz≤q∧k (σ.set b (.rows q (es.set j (Az (es.getD j []) f x)) false cap))):=by
 simp[Ru]
@[go_sem] theorem Baj{ad:Addr}:Qb (.v (.pointer (some ad))) K=K (.v (.pointer (some ad))):=_root_.id rfl
@[go_sem] theorem Bai{f:FuncId}{x y:Array Value}:Qb (.v (.func (.func f) x y)) K=K (.v (.func (.func f) x y)):=_root_.id rfl
@[go_sem] theorem Bak{l:Nat}{x y:Array Value}:Qb (.v (.func (.yield l) x y)) K=K (.v (.func (.yield l) x y)):=_root_.id rfl
@[go_sem] theorem Ax1{cs:List AV}:Qb (.fp cs) K=K (.fp cs):=_root_.id rfl
@[go_sem] theorem Ax2{b q i f:Nat}:Qb (.rp b q i f) K=K (.rp b q i f):=_root_.id rfl
def aFad(q:Option (Nat×Nat×Bool))(x:AV)(K:AV→Prop):Prop:=
 match q with
 |some (off,sz,_)=>0<sz∧match x with
  | .v (.pointer (some ⟨b,p,none⟩))=>K (.v (.pointer (some ⟨b,p+off,none⟩)))
  | .fp cs=>off≤cs.length∧K (.fp (cs.drop off))
  | .rp b q j g=>K (.rp b q j (g+off))
  |_=>False
 |none=>False
@[go_sem] theorem Axn{ag:Bool}{sz f:Nat}{zr:List Value}{fs:List (Nat×Nat×Bool)}{x:AV}:I3 (some ⟨ag,sz,zr,.st fs⟩) f x K=aFad (fs[f]?) x K:=by
 simp only[I3,aFad];cases fs[f]? with
 |none=>rfl
 |some q=>rfl
@[go_sem] theorem Az0{off sz:Nat}{ag:Bool}{b p:Nat}:aFad (some (off,sz,ag)) (.v (.pointer (some ⟨b,p,none⟩))) K=(0<sz∧K (.v (.pointer (some ⟨b,p+off,none⟩)))):=_root_.id rfl
@[go_sem] theorem Axl{off sz:Nat}{ag:Bool}{cs:List AV}:aFad (some (off,sz,ag)) (.fp cs) K=(0<sz∧off≤cs.length∧K (.fp (cs.drop off))):=_root_.id rfl
@[go_sem] theorem Axm{off sz:Nat}{ag:Bool}{b q j g:Nat}:aFad (some (off,sz,ag)) (.rp b q j g) K=(0<sz∧K (.rp b q j (g+off))):=_root_.id rfl
def aFl(q:Option (Nat×Nat×Bool))(x:AV)(K:AV→Prop):Prop:=
 match q with
 |some (off,sz,ag)=>match x with
  | .agg cs=>K5 ag sz off cs K
  |_=>False
 |none=>False
@[go_sem] theorem Az2{ag:Bool}{sz f:Nat}{zr:List Value}{fs:List (Nat×Nat×Bool)}{x:AV}:N1 (some ⟨ag,sz,zr,.st fs⟩) f x K=aFl (fs[f]?) x K:=by
 simp only[N1,aFl];cases fs[f]? with
 |none=>rfl
 |some q=>cases x<;>rfl
@[go_sem] theorem fl_a{off sz:Nat}{ag:Bool}{cs:List AV}:aFl (some (off,sz,ag)) (.agg cs) K=K5 ag sz off cs K:=_root_.id rfl
section
variable{ag eag:Bool}{sz n esz eby:Nat}{zr ez:List Value}{byt:Bool}{ik:IntKind}{j:Int}
@[go_sem] theorem Axv{b p:Nat}:Fs (some ⟨ag,sz,zr,.arr n esz eag⟩) σ (.v (.pointer (some ⟨b,p,none⟩))) (.v (.int ik j)) K=(0≤j∧j<n∧K (.v (.pointer (some ⟨b,p+j.toNat*esz,none⟩)))):=_root_.id rfl
@[go_sem] theorem Avo{cs:List AV}:Fs (some ⟨ag,sz,zr,.arr n esz eag⟩) σ (.fp cs) (.v (.int ik j)) K=(0≤j∧j<n∧j.toNat*esz≤cs.length∧K (.fp (cs.drop (j.toNat*esz)))):=_root_.id rfl
@[go_sem] theorem Avp{b q r f:Nat}:Fs (some ⟨ag,sz,zr,.arr n esz eag⟩) σ (.rp b q r f) (.v (.int ik j)) K=(0≤j∧j<n∧K (.rp b q r (f+j.toNat*esz))):=_root_.id rfl
@[go_sem] theorem Avq{q:Nat}{es:List (List AV)}:Fs (some ⟨ag,sz,zr,.sl esz eby ez byt⟩) σ (.sl q es) (.v (.int ik j)) K=(q=esz∧0≤j∧j<es.length∧K (.fp (es.getD j.toNat []))):=_root_.id rfl
@[go_sem] theorem Aub{q:Nat}{es:List (List AV)}:Fs (some ⟨ag,sz,zr,.sl esz eby ez byt⟩) σ (.fsl q es) (.v (.int ik j)) K=(q=esz∧0≤j∧j<es.length∧K (.fp (es.getD j.toNat []))):=_root_.id rfl
@[go_sem] theorem Axw{b m c:Nat}:Fs (some ⟨ag,sz,zr,.sl esz eby ez byt⟩) σ (.v (.slice (some ⟨b,0,none⟩) m c)) (.v (.int ik j)) K=(0≤j∧j<m∧K (.rp b esz j.toNat 0)):=by simp[Fs]
@[go_sem] theorem Avr{cs:List AV}:Sg (some ⟨ag,sz,zr,.arr n esz eag⟩) (.agg cs) (.v (.int ik j)) K=(0≤j∧j<n∧K5 eag esz (j.toNat*esz) cs K):=_root_.id rfl
@[go_sem] theorem Avs{s:ByteArray}:Sg (some ⟨ag,sz,zr,.str⟩) (.v (.string s)) (.v (.int ik j)) K=(0≤j∧j<s.size∧K (.v (.int .u8 (s.data.toList.getD j.toNat 0).toNat))):=_root_.id rfl
@[go_sem] theorem Azv{vs:List AV}{i:Nat}:Hp (.tup vs) i K=(i<vs.length∧K (vs.getD i (.v undef))):=_root_.id rfl
@[go_sem] theorem Awa{s:ByteArray}:K6 (some ⟨ag,sz,zr,.str⟩) (.v (.string s)) K=K (.v (.int .i64 s.size)):=_root_.id rfl
@[go_sem] theorem Axx{q:Nat}{es:List (List AV)}:K6 (some ⟨ag,sz,zr,.sl esz eby ez byt⟩) (.sl q es) K=K (.v (.int .i64 es.length)):=_root_.id rfl
@[go_sem] theorem Av9{q:Nat}{es:List (List AV)}:K6 (some ⟨ag,sz,zr,.sl esz eby ez byt⟩) (.fsl q es) K=K (.v (.int .i64 es.length)):=_root_.id rfl
@[go_sem] theorem Bae{a:Option Addr}{m c:Nat}:K6 (some ⟨ag,sz,zr,.sl esz eby ez byt⟩) (.v (.slice a m c)) K=K (.v (.int .i64 m)):=_root_.id rfl
@[go_sem] theorem Av8{x:AV}:K6 (some ⟨ag,sz,zr,.arr n esz eag⟩) x K=K (.v (.int .i64 n)):=_root_.id rfl
@[go_sem] theorem At0{i':IntKind}{ag':Bool}{sz':Nat}{zr':List Value}{i'':IntKind}:Ji (some ⟨ag,sz,zr,.int i'⟩) (some ⟨ag',sz',zr',.int i''⟩) σ (.v (.int ik j)) k=k (.v (.int i'' (i''.wrap j))) σ:=_root_.id rfl
@[go_sem] theorem At1{ag':Bool}{sz':Nat}{zr':List Value}{s:ByteArray}:Ji (some ⟨ag,sz,zr,.str⟩) (some ⟨ag',sz',zr',.str⟩) σ (.v (.string s)) k=k (.v (.string s)) σ:=_root_.id rfl
@[go_sem] theorem Ava{ag':Bool}{sz':Nat}{zr':List Value}{x:AV}:Ji (some ⟨ag,sz,zr,.sl 1 eby ez true⟩) (some ⟨ag',sz',zr',.str⟩) σ x k=∃es,P6 1 σ x=some es∧es.all Nr=true∧k (.v (.string (Ug es))) σ:=by
 cases x<;>rfl
end
def band(k:IntKind)(x y:Int):Int:=k.wrap ((BitVec.ofInt k.bits x&&&BitVec.ofInt k.bits y).toNat:Int)
def bxor(k:IntKind)(x y:Int):Int:=k.wrap ((BitVec.ofInt k.bits x^^^BitVec.ofInt k.bits y).toNat:Int)
@[go_sem] theorem Au1{op:BinOp}{t:TypeId}{ik:IntKind}{x y:Int}:D9 P op t (.v (.int ik x)) (.v (.int ik y)) K=Ga op ik x y K:=by simp[D9]
@[go_sem] theorem Au2{t:TypeId}{ik ik':IntKind}{x y:Int}:D9 P .shl t (.v (.int ik x)) (.v (.int ik' y)) K=Ga .shl ik x y K:=by simp[D9,isSh]
@[go_sem] theorem Au3{t:TypeId}{ik ik':IntKind}{x y:Int}:D9 P .shr t (.v (.int ik x)) (.v (.int ik' y)) K=Ga .shr ik x y K:=by simp[D9,isSh]
@[go_sem] theorem Aw9{t:TypeId}{f:Fn}{a b:Array Value}:D9 P .eql t (.v (.func f a b)) (.v .nilFunc) K=(isFn P t=true∧K (.v (.bool false))):=_root_.id rfl
@[go_sem] theorem Axa{t:TypeId}{f:Fn}{a b:Array Value}:D9 P .neq t (.v (.func f a b)) (.v .nilFunc) K=(isFn P t=true∧K (.v (.bool true))):=_root_.id rfl
@[go_sem] theorem Aw5{t:TypeId}{xs ys:List AV}:D9 P .eql t (.agg xs) (.agg ys) K=Rp P false t (.agg xs) (.agg ys) K:=_root_.id rfl
@[go_sem] theorem Aw6{t:TypeId}{xs ys:List AV}:D9 P .neq t (.agg xs) (.agg ys) K=Rp P true t (.agg xs) (.agg ys) K:=_root_.id rfl
@[go_sem] theorem Aw0{x y:ByteArray}:K8 .gtr x y K=K (.v (.bool (!(Op.bytesLess x.toList y.toList||decide (x=y))))):=_root_.id rfl
theorem Wt{neg:Bool}{t:TypeId}{x y:AV}{xs ys:List AV}{vs ws:List Value}{ls:List Du}(e5:Gf P 9 t=some ls)(h1:N5 P t=true)(h2:P.eqGuardType P.depth t=false)(e1:aggV x=some xs)(e2:aggV y=some ys)(e3:Rt xs=some vs)(e4:Rt ys=some ws)(e6:Fit ls vs=true)(e7:Fit ls ws=true)
  (hk:K (.v (.bool (if neg then !eqL vs ws else eqL vs ws)))):Rp P neg t x y K:=⟨h1,h2,xs,ys,vs,ws,ls,e1,e2,e3,e4,e5,e6,e7,hk⟩
@[go_sem] theorem Au4{op:BinOp}{t:TypeId}{x y:ByteArray}:D9 P op t (.v (.string x)) (.v (.string y)) K=K8 op x y K:=_root_.id rfl
@[go_sem] theorem Aw7{t:TypeId}{x y:Bool}:D9 P .eql t (.v (.bool x)) (.v (.bool y)) K=(Qw P t=true∧K (.v (.bool (decide (x=y))))):=_root_.id rfl
@[go_sem] theorem Aw8{t:TypeId}{x y:Bool}:D9 P .neq t (.v (.bool x)) (.v (.bool y)) K=(Qw P t=true∧K (.v (.bool (decide (x≠y))))):=_root_.id rfl
@[go_sem] theorem Axf{t:TypeId}{p:Option Addr}:D9 P .eql t (.v (.pointer p)) (.v (.pointer none)) K=(Er P t=true∧K (.v (.bool p.isNone))):=by cases p<;>rfl
@[go_sem] theorem Axg{t:TypeId}{p:Option Addr}:D9 P .neq t (.v (.pointer p)) (.v (.pointer none)) K=(Er P t=true∧K (.v (.bool p.isSome))):=by cases p<;>rfl
@[go_sem] theorem Axh{t:TypeId}{p:Option Addr}{m c:Nat}:D9 P .eql t (.v (.slice p m c)) (.v (.slice none 0 0)) K=(Fi P t=true∧K (.v (.bool p.isNone))):=_root_.id rfl
@[go_sem] theorem Axi{t:TypeId}{p:Option Addr}{m c:Nat}:D9 P .neq t (.v (.slice p m c)) (.v (.slice none 0 0)) K=(Fi P t=true∧K (.v (.bool p.isSome))):=_root_.id rfl
@[go_sem] theorem Axb{t:TypeId}{q:Nat}{es:List (List AV)}:D9 P .eql t (.sl q es) (.v (.slice none 0 0)) K=(Fi P t=true∧(es≠[]→K (.v (.bool false)))∧(es=[]→∀b,K (.v (.bool b)))):=_root_.id rfl
@[go_sem] theorem Axc{t:TypeId}{q:Nat}{es:List (List AV)}:D9 P .neq t (.sl q es) (.v (.slice none 0 0)) K=(Fi P t=true∧(es≠[]→K (.v (.bool true)))∧(es=[]→∀b,K (.v (.bool b)))):=_root_.id rfl
@[go_sem] theorem Axd{t:TypeId}{p:Option Nat}:D9 P .eql t (.v (.map p)) (.v (.map none)) K=(Tq P t=true∧K (.v (.bool p.isNone))):=_root_.id rfl
@[go_sem] theorem Axe{t:TypeId}{p:Option Nat}:D9 P .neq t (.v (.map p)) (.v (.map none)) K=(Tq P t=true∧K (.v (.bool p.isSome))):=_root_.id rfl
@[go_sem] theorem Avt{ik:IntKind}{x y:Int}:Ga .add ik x y K=K (.v (.int ik (ik.wrap (x+y)))):=_root_.id rfl
@[go_sem] theorem Av6{ik:IntKind}{x y:Int}:Ga .sub ik x y K=K (.v (.int ik (ik.wrap (x-y)))):=_root_.id rfl
@[go_sem] theorem Av0{ik:IntKind}{x y:Int}:Ga .mul ik x y K=K (.v (.int ik (ik.wrap (x*y)))):=_root_.id rfl
@[go_sem] theorem Av2{ik:IntKind}{x y:Int}:Ga .quo ik x y K=(y≠0∧K (.v (.int ik (ik.wrap (x.tdiv y))))):=_root_.id rfl
@[go_sem] theorem Av3{ik:IntKind}{x y:Int}:Ga .rem ik x y K=(y≠0∧K (.v (.int ik (x.tmod y)))):=_root_.id rfl
@[go_sem] theorem Avv{ik:IntKind}{x y:Int}:Ga .eql ik x y K=K (.v (.bool (decide (x=y)))):=_root_.id rfl
@[go_sem] theorem Av1{ik:IntKind}{x y:Int}:Ga .neq ik x y K=K (.v (.bool (!decide (x=y)))):=by simp[Ga]
@[go_sem] theorem Avz{ik:IntKind}{x y:Int}:Ga .lss ik x y K=K (.v (.bool (decide (x<y)))):=_root_.id rfl
@[go_sem] theorem Avy{ik:IntKind}{x y:Int}:Ga .leq ik x y K=K (.v (.bool (decide (x≤y)))):=_root_.id rfl
@[go_sem] theorem Avx{ik:IntKind}{x y:Int}:Ga .gtr ik x y K=K (.v (.bool (decide (y<x)))):=_root_.id rfl
@[go_sem] theorem Avw{ik:IntKind}{x y:Int}:Ga .geq ik x y K=K (.v (.bool (decide (y≤x)))):=_root_.id rfl
@[go_sem] theorem Avu{ik:IntKind}{x y:Int}:Ga .and ik x y K=K (.v (.int ik (band ik x y))):=_root_.id rfl
@[go_sem] theorem Av7{ik:IntKind}{x y:Int}:Ga .xor ik x y K=K (.v (.int ik (bxor ik x y))):=_root_.id rfl
@[go_sem] theorem Ay4{ik:IntKind}{x:Int}:aUn .xor (.v (.int ik x)) K=K (.v (.int ik (bxor ik (if ik.signed then-1 else ik.max) x))):=_root_.id rfl
@[go_sem] theorem Awz{x y:ByteArray}:K8 .eql x y K=K (.v (.bool (decide (x=y)))):=_root_.id rfl
@[go_sem] theorem Aw2{x y:ByteArray}:K8 .neq x y K=K (.v (.bool (!decide (x=y)))):=by simp[K8]
@[go_sem] theorem Aw1{x y:ByteArray}:K8 .lss x y K=K (.v (.bool (Op.bytesLess x.toList y.toList))):=_root_.id rfl
@[go_sem] theorem Awy{x y:ByteArray}:K8 .add x y K=(x.size+y.size≤9223372036854775807∧K (.v (.string (x++y)))):=_root_.id rfl
@[go_sem] theorem Ay3{b:Bool}:aUn .not (.v (.bool b)) K=K (.v (.bool (!b))):=_root_.id rfl
@[go_sem] theorem Ay2{ik:IntKind}{x:Int}:aUn .neg (.v (.int ik x)) K=K (.v (.int ik (ik.wrap (0-x)))):=_root_.id rfl
end
@[go_sem] theorem Avd{ev:Operand→AV}:evs ev []=[]:=_root_.id rfl
@[go_sem] theorem At3{ev:Operand→AV}{j:Nat}{x:Operand}{l:List (Nat×Operand)}:evs ev ((j,x)::l)=(j,ev x)::evs ev l:=_root_.id rfl
@[go_sem] theorem Au8{x:Value}(h:x.oneCell'=true):AV.cells (.v x)=[.v x]:=by cases x<;>first|rfl|cases h
@[go_sem] theorem Atc{cs:List AV}:AV.cells (.agg cs)=cs:=_root_.id rfl
@[go_sem] theorem Atx{q:Nat}{es:List (List AV)}:AV.cells (.sl q es)=[.sl q es]:=_root_.id rfl
@[go_sem] theorem Atd{q:Nat}{es:List (List AV)}:AV.cells (.fsl q es)=[.fsl q es]:=_root_.id rfl
@[go_sem] theorem Baz{x:Value}:AV.one (.v x)=x.oneCell':=_root_.id rfl
@[go_sem] theorem Ayd{q:Nat}{es:List (List AV)}:AV.one (.sl q es)=true:=_root_.id rfl
@[go_sem] theorem Awm{q:Nat}{es:List (List AV)}:AV.one (.fsl q es)=true:=_root_.id rfl
@[go_sem] theorem oc1{k:IntKind}{x:Int}:(Value.int k x).oneCell'=true:=_root_.id rfl
@[go_sem] theorem oc2{x:Bool}:(Value.bool x).oneCell'=true:=_root_.id rfl
@[go_sem] theorem oc3{x:ByteArray}:(Value.string x).oneCell'=true:=_root_.id rfl
@[go_sem] theorem oc4{x:Option Addr}:(Value.pointer x).oneCell'=true:=_root_.id rfl
@[go_sem] theorem oc5{x:Option Addr}{l c:Nat}:(Value.slice x l c).oneCell'=true:=_root_.id rfl
@[go_sem] theorem oc6{x:Option Nat}:(Value.map x).oneCell'=true:=_root_.id rfl
@[go_sem] theorem oc7{f:Fn}{x y:Array Value}:(Value.func f x y).oneCell'=true:=_root_.id rfl
@[go_sem] theorem oc8:Value.nilFunc.oneCell'=true:=_root_.id rfl
@[go_sem] theorem oc9:Value.nilIface.oneCell'=true:=_root_.id rfl
@[go_sem] theorem Ath{ag:Bool}{sz esz eby:Nat}{zr ez:List Value}{byt:Bool}:Nu (some ⟨ag,sz,zr,.sl esz eby ez byt⟩)=true:=_root_.id rfl
@[go_sem] theorem Asp{ag:Bool}{sz:Nat}{zr:List Value}{q:IntKind}:Nu (some ⟨ag,sz,zr,.int q⟩)=false:=_root_.id rfl
@[go_sem] theorem Asq{ag:Bool}{sz:Nat}{zr:List Value}:Nu (some ⟨ag,sz,zr,.str⟩)=true:=_root_.id rfl
@[go_sem] theorem Awv{fr:Fr}{σ:St}{t:Nat}:A9 P fr σ [.tmp t]=some (fr t):=_root_.id rfl
@[go_sem] theorem Aww{fr:Fr}{σ:St}{t u:Nat}:A9 P fr σ [.tmp t,.tmp u]=some (.tup [fr t,fr u]):=_root_.id rfl
@[go_sem] theorem Ato{fr:Fr}{σ:St}{t u v:Nat}:A9 P fr σ [.tmp t,.tmp u,.tmp v]=some (.tup [fr t,fr u,fr v]):=_root_.id rfl
@[go_sem] theorem Aun{fr:Fr}{σ:St}:A9 P fr σ []=some (.tup []):=_root_.id rfl
theorem Ae{Q:AV→St→Prop}{l:List ResultVar}{fr:Fr}{σ:St}{r:AV}(h:A9 P fr σ l=some r)(hq:Q r σ):Dw P Q l fr σ:=⟨r,h,r,σ,Hf.refl σ r,hq⟩
theorem Ad{Q:AV→St→Prop}{l:List ResultVar}{fr:Fr}{σ:St}{r:AV}(h:A9 P fr σ l=some r)(r':AV)(σ':St)(hv:Hf σ r σ' r')(hq:Q r' σ'):Dw P Q l fr σ:=⟨r,h,r',σ',hv,hq⟩
@[go_sem] theorem Ab{σ:St}{b:Nat}{o:Cj}:(σ.set b o) b=some o:=by simp[St.set]
@[go_sem] theorem Ag{σ:St}{b x:Nat}{o:Cj}(h:x≠b):(σ.set b o) x=σ x:=by simp[St.set,h]
@[go_sem] theorem Ct{σ:St}{b:Nat}{o o':Cj}:(σ.set b o).set b o'=σ.set b o':=by
 funext x;simp only[St.set];split<;>rfl
theorem B8{σ:St}{b:Nat}{o:Cj}(h:σ b=some o):σ.set b o=σ:=by
 funext x;simp only[St.set];split
 ·rename_i hx;rw[hx,h]
 ·rfl
@[go_sem] theorem Arb{c:AV}{cs xs:List AV}{o:Nat}:Az (c::cs) (o+1) xs=c::Az cs o xs:=by
 simp[Az,Nat.add_right_comm]
@[go_sem] theorem Arc{cs xs:List AV}:Az cs 0 xs=xs++cs.drop xs.length:=by simp[Az]
end
attribute [go_sem] List.map_cons List.map_nil List.getD_cons_zero List.getD_cons_succ List.getElem?_cons_zero List.getElem?_cons_succ Option.map_some Option.map_none Option.isNone_some Option.isNone_none Option.isSome_some Option.isSome_none true_and and_true List.length_cons List.length_nil List.all_cons List.all_nil Bool.and_true Bool.true_and Bool.not_true Bool.not_false List.drop_zero List.drop_succ_cons List.drop_nil List.take_zero List.take_succ_cons List.take_nil List.cons_append List.nil_append List.append_nil decide_true decide_false List.replicate_succ List.replicate_zero List.set_cons_zero List.set_cons_succ
section
variable{P:Program}{ops:Array Oper}{K:Fr→St→Prop}
def Eg(ops:Array Oper):Nat→Nat→Nat→Bool
 |0,_,_=>false
 |n+1,j,p=>match ops[j]? with
  |none=>false
  |some o=>o.after.any fun e=>Region.binds .any e&&(e.on==p||Eg ops n e.on p)
abbrev M0:=Nat→(St→Prop)→Prop
def M0.add(S:M0)(i:Nat)(q:St→Prop):M0:=fun p r=>S p r∨(p=i∧r=q)
theorem Ahp{S:M0}{i j:Nat}{q r:St→Prop}:(S.add i q).add j r=(S.add j r).add i q:=by
 funext p s;simp only[M0.add,eq_iff_iff];constructor
 ·rintro((h|h)|h)
  ·exact .inl (.inl h)
  ·exact .inr h
  ·exact .inl (.inr h)
 ·rintro((h|h)|h)
  ·exact .inl (.inl h)
  ·exact .inr h
  ·exact .inl (.inr h)
def Sn(P:Program)(ops:Array Oper)(i:Nat)(S:M0)(C:M0→Fr→St→Prop)(fr:Fr)(σ:St):Prop:=
 match ops[i]? with
 |none=>C S fr σ
 |some o=>aGd (Ie ops) fr o.guard
   (aOp P o.op fr σ fun v σ'=>if cls P o.op=2 then(∀p q,S p q→Eg ops ops.size i p=false→q σ')∧C S (fr.put o.dst v) σ' else C (S.add i fun σ''=>Yl P o.op fr σ'' v) (fr.put o.dst v) σ')
   (C S (fr.put o.dst (.v undef)) σ)
def Rq(P:Program)(ops:Array Oper)(K:Fr→St→Prop):Nat→Array Bool→M0→Fr→St→Prop
 |0,L,S,fr,σ=>Region.ready .any ops L=[]∧K fr σ
 |n+1,L,S,fr,σ=>(Region.ready .any ops L=[]→K fr σ)∧∀i∈Region.ready .any ops L,Sn P ops i S (fun S' fr' σ'=>Rq P ops K n (L.setIfInBounds i true) S' fr' σ') fr σ
theorem Si{b:Bool}{A B A' B':Prop}(h1:A→A')(h2:B→B')(h:aIf b A B):aIf b A' B':=by
 unfold aIf at h⊢;cases b
 ·exact h2 h
 ·exact h1 h
theorem H9{ds:List (Option Nat)}{fr:Fr}{g:Option (Nat×Bool)}{A B A' B':Prop}(h1:A→A')(h2:B→B')(h:aGd ds fr g A B):aGd ds fr g A' B':=by
 unfold aGd at h⊢;cases g with
 |none=>exact h1 h
 |some q=>
  obtain⟨j,want⟩:=q;simp only at h⊢;revert h;generalize ds.getD j none=z;cases z with
  |none=>exact fun h=>h
  |some d=>
   simp only;generalize fr d=x;cases x with
   |v y=>cases y with
    |bool b=>
     intro h;cases want
     ·have h:aIf b B A:=h
      show aIf b B' A';exact Si h2 h1 h
     ·have h:aIf b A B:=h
      show aIf b A' B';exact Si h1 h2 h
    |_=>exact h2
   |_=>exact fun h=>h
theorem U3{i:Nat}{r:List Nat}{fr:Fr}{σ:St}:Jl P ops (i::r) K fr σ=(match ops[i]? with
  |none=>Jl P ops r K fr σ
  |some o=>aGd (Ie ops) fr o.guard (aOp P o.op fr σ fun v σ'=>Jl P ops r K (fr.put o.dst v) σ') (Jl P ops r K (fr.put o.dst (.v undef)) σ)):=rfl
theorem Ac6{i:Nat}{r:List Nat}{S:M0}{C:M0→Fr→St→Prop}{fr:Fr}{σ:St}(hC:∀S fr σ,C S fr σ→Jl P ops r K fr σ)(h:Sn P ops i S C fr σ):Jl P ops (i::r) K fr σ:=by
 rw[U3];unfold Sn at h;split at h
 ·exact hC _ _ _ h
 ·refine H9 (fun h=>Kd _ _ (fun v σ' hv=>?_) h) (hC _ _ _) h
  split at hv
  ·exact hC _ _ _ hv.2
  ·exact hC _ _ _ hv
theorem Abv:∀(n t:Nat) (L:Array Bool) (S:M0) (fr:Fr) (σ:St),Rq P ops K n L S fr σ→Jl P ops (Region.linearise.go .any ops n t L []) K fr σ:=by
 intro n
 induction n with
 |zero=>intro t L S fr σ h;simpa[Region.linearise.go,Jl]using h.2
 |succ n ih=>
  intro t L S fr σ h;obtain⟨h0,h1⟩:=h;simp only[Region.linearise.go]
  change Jl P ops (match(Region.ready .any ops L)[t %(Region.ready .any ops L).length]? with
   |some i=>Region.linearise.go .any ops n (t/(Region.ready .any ops L).length) (L.setIfInBounds i true) [i]
   |none=>[].reverse) K fr σ
  cases hi:(Region.ready .any ops L)[t %(Region.ready .any ops L).length]? with
  |none=>
   have hnil:Region.ready .any ops L=[]:=by
    cases hr:Region.ready .any ops L with
    |nil=>rfl
    |cons x xs=>
     rw[hr]at hi;have hlt:t %(x::xs).length<(x::xs).length:=Nat.mod_lt _ (by simp);simp at hi;simp at hlt;omega
   simpa[Jl]using h0 hnil
  |some i=>
   simp only[];rw[linearise_go_acc,List.reverse_singleton,List.singleton_append];exact Ac6 (fun S' fr' σ' h=>ih _ _ S' fr' σ' h) (h1 i (List.mem_of_getElem? hi))
theorem N0(hm:P.follows .mixedOrders=true){fr:Fr}{σ:St}(h:Rq P ops K ops.size (Array.replicate ops.size false) (fun _ _=>False) fr σ):U1 P ops K fr σ:=by
 intro t;simp only[Region.schedule,hm,Bool.true_or,if_true];exact Abv ops.size t _ _ fr σ h
def Nb(ops:Array Oper)(L:Array Bool):Prop:=∀i o,L.getD i false=true→ops[i]? =some o→∀e∈o.after,Region.binds .any e=true→L.getD e.on false=true
theorem M8{L:Array Bool}(hL:Nb ops L):∀(n j p:Nat),(∀o,ops[j]? =some o→∀e∈o.after,Region.binds .any e=true→L.getD e.on false=true)→Eg ops n j p=true→L.getD p false=true
 |0,j,p,_,h=>by simp[Eg]at h
 |n+1,j,p,hj,h=>by
  simp only[Eg]at h;cases ho:ops[j]? with
  |none=>rw[ho]at h;cases h
  |some o=>
   rw[ho]at h;simp only[Array.any_eq_true,Bool.and_eq_true,Bool.or_eq_true,beq_iff_eq]at h;obtain⟨k,hk,h1,h2⟩:=h;have hl:=hj o ho _ (Array.getElem_mem hk) h1;rcases h2 with h2|h2
   ·rw[←h2];exact hl
   ·exact M8 hL n _ p (fun o' ho' e he hb=>hL _ o' hl ho' e he hb) h2
theorem Nx{L:Array Bool}{i:Nat}(h:i∈Region.ready .any ops L):L.getD i true=false∧∃o,ops[i]? =some o∧∀e∈o.after,Region.binds .any e=true→L.getD e.on false=true:=by
 obtain⟨h1,o,h2,h3⟩:=mem_ready.1 h;exact⟨h1,o,h2,h3⟩
theorem Eb{L:Array Bool}(hL:Nb ops L){i:Nat}(hi:i∈Region.ready .any ops L):Nb ops (L.setIfInBounds i true):=by
 intro j o hj ho e he hb;have grow:∀k,L.getD k false=true→(L.setIfInBounds i true).getD k false=true:=by
  intro k hk;by_cases h:i=k
  ·subst h
   rcases Nat.lt_or_ge i L.size with h'|h'
   ·simp[h']
   ·simp[Array.getElem?_eq_none h']at hk
  ·rw[getD_set_ne false h];exact hk
 by_cases h:i=j
 ·subst h
  obtain⟨_,o',ho',hall⟩:=Nx hi;have:o'=o:=by rw[ho]at ho';exact(Option.some.inj ho').symm
  subst this;exact grow _ (hall e he hb)
 ·rw[getD_set_ne false h]at hj
  exact grow _ (hL j o hj ho e he hb)
theorem Ack{x y:Oper}{fr:Fr}{v:AV}{A B:Prop}(h:∀d,x.dst=some d→d∉y.looksAt ops):aGd (Ie ops) (fr.put x.dst v) y.guard A B=aGd (Ie ops) fr y.guard A B:=by
 unfold aGd;cases hg:y.guard with
 |none=>rfl
 |some q=>
  obtain⟨j,want⟩:=q;simp only;have hds:(Ie ops).getD j none=(ops[j]?).bind (·.dst):=by
   simp only[Ie,List.getD_eq_getElem?_getD,List.getElem?_map,Array.getElem?_toList];cases ops[j]? <;>rfl
  cases hd:(ops[j]?).bind (·.dst)with
  |none=>rw[hds,hd]
  |some d=>
   rw[hds,hd];simp only;have:(fr.put x.dst v) d=fr d:=by
    have:=Ajp (fr:=fr) (d:=x.dst) (v:=v) (x:=.tmp d) (fun t ht e=>by
     injection e with e;subst e;exact h d ht (by simp[Oper.looksAt,hg,hd]))
    exact this
   rw[this]
theorem Ac4{x y:Oper}{fr:Fr}{v:AV}{σ:St}{k:AV→St→Prop}(h:∀d,x.dst=some d→d∉y.looksAt ops):aOp P y.op (fr.put x.dst v) σ k=aOp P y.op fr σ k:=by
 refine Agn fun z hz=>Ajp fun t ht e=>?_;subst e;refine h t ht ?_;simp only[Oper.looksAt,List.mem_append,List.mem_filterMap];exact .inl ⟨.tmp t,by simpa using hz,rfl⟩
theorem Ad0{x y:Oper}{fr:Fr}{v u:AV}(h:∀d,x.dst=some d→d∉y.looksAt ops):(fun σ=>Yl P y.op (fr.put x.dst v) σ u)=fun σ=>Yl P y.op fr σ u:=by
 funext σ;unfold Yl;refine propext (forall_congr' fun k=>imp_congr_right fun _=>?_);rw[Ac4 h]
theorem Nn{i:Nat}{oi:Oper}{v:AV}(hi:ops[i]? =some oi)(hcls:cls P oi.op≠2):∀(n:Nat) (L:Array Bool) (S:M0) (fr:Fr) (σ:St),
  Nb ops L→
  (∀j oj,ops[j]? =some oj→j≠i→L.getD j true=false→(∀e∈oj.after,Region.binds .any e=true→e.on≠i)→oi.apart ops oj=true)→
  i∈Region.ready .any ops L→
  ((∀A B:Prop,A→aGd (Ie ops) fr oi.guard A B)∧Yl P oi.op fr σ v∧Rq P ops K n (L.setIfInBounds i true) (S.add i fun σ'=>Yl P oi.op fr σ' v) (fr.put oi.dst v) σ∨
    (∀A B:Prop,B→aGd (Ie ops) fr oi.guard A B)∧v= .v undef∧Rq P ops K n (L.setIfInBounds i true) S (fr.put oi.dst v) σ)→
  Rq P ops K (n+1) L S fr σ:=by
 intro n
 have here:∀(n:Nat) (L:Array Bool) (S:M0) (fr:Fr) (σ:St),
  ((∀A B:Prop,A→aGd (Ie ops) fr oi.guard A B)∧Yl P oi.op fr σ v∧Rq P ops K n (L.setIfInBounds i true) (S.add i fun σ'=>Yl P oi.op fr σ' v) (fr.put oi.dst v) σ∨
    (∀A B:Prop,B→aGd (Ie ops) fr oi.guard A B)∧v= .v undef∧Rq P ops K n (L.setIfInBounds i true) S (fr.put oi.dst v) σ)→
  Sn P ops i S (fun S' fr' σ'=>Rq P ops K n (L.setIfInBounds i true) S' fr' σ') fr σ:=by
  intro n L S fr σ H;unfold Sn;simp only[hi];rcases H with⟨hg,hy,H⟩|⟨hg,rfl,H⟩
  ·refine hg _ _ (hy _ ?_)
   rw[if_neg hcls];exact H
  ·exact hg _ _ H
 induction n with
 |zero=>
  intro L S fr σ hL hfree hr H;refine⟨fun h=>(by rw[h]at hr;cases hr),fun j hj=>?_⟩;by_cases hji:j=i
  ·subst hji;exact here 0 L S fr σ H
  ·have h1:=ready_mono hj hji
   have h0:Region.ready .any ops (L.setIfInBounds i true)=[]:=by
    rcases H with⟨_,_,H⟩|⟨_,_,H⟩<;>exact H.1
   rw[h0]at h1;cases h1
 |succ n ih=>
  intro L S fr σ hL hfree hr H;refine⟨fun h=>(by rw[h]at hr;cases hr),fun j hj=>?_⟩;by_cases hji:j=i
  ·subst hji;exact here (n+1) L S fr σ H
  ·obtain⟨hjun,oj,hoj,hall⟩:=Nx hj
   have hiun:=(Nx hr).1;have hnoti:L.getD i false=false:=by
    rcases Nat.lt_or_ge i L.size with h'|h'
    ·simpa[h']using hiun
    ·simp[Array.getElem?_eq_none h']
   have hnot:∀e∈oj.after,Region.binds .any e=true→e.on≠i:=fun e he hb heq=>by
    have:=hall e he hb;rw[heq,hnoti]at this;cases this
   have hap:=hfree j oj hoj hji hjun hnot;obtain⟨a1,a2,a3⟩:=Oper.apart_spec hap;have hbef:Eg ops ops.size j i=false:=by
    cases hb:Eg ops ops.size j i with
    |false=>rfl
    |true=>
     have:=M8 hL ops.size j i (fun o ho e he hbb=>by
      have:o=oj:=by rw[hoj]at ho;exact(Option.some.inj ho).symm
      subst this;exact hall e he hbb) hb
     rw[hnoti]at this;cases this
   have hfree':∀k ok,ops[k]? =some ok→k≠i→(L.setIfInBounds j true).getD k true=false→(∀e∈ok.after,Region.binds .any e=true→e.on≠i)→oi.apart ops ok=true:=fun k ok hk hki hun hno=>by
    refine hfree k ok hk hki ?_ hno;by_cases hjk:j=k
    ·subst hjk;exact hjun
    ·rw[getD_set_ne true hjk]at hun;exact hun
   have hL':=Eb hL hj;have hr':=ready_mono hr (Ne.symm hji);have gdi:∀(u:AV) (A B:Prop),aGd (Ie ops) (fr.put oj.dst u) oi.guard A B=aGd (Ie ops) fr oi.guard A B:=fun u A B=>Ack a3;have yli:∀(u:AV),(fun σ'=>Yl P oi.op (fr.put oj.dst u) σ' v)=fun σ'=>Yl P oi.op fr σ' v:=fun u=>Ad0 a3;unfold Sn;simp only[hoj];rcases H with⟨hg,hy,H⟩|⟨hg,hv,H⟩
   ·have h1:=H.2 j (ready_mono hj hji)
    unfold Sn at h1;simp only[hoj]at h1;rw[Ack a1]at h1;refine H9 (fun h1=>?_) (fun h1=>?_) h1
    ·rw[Ac4 a1]at h1
     by_cases hcj:cls P oj.op=2
     ·refine Kd _ _ (fun u σ' h2=>?_) h1
      rw[if_pos hcj]at h2⊢;refine⟨fun p q hpq hp=>h2.1 p q (.inl hpq) hp,?_⟩;refine ih (L.setIfInBounds j true) S (fr.put oj.dst u) σ' hL' hfree' hr' (.inl ⟨fun A B hA=>by rw[gdi];exact hg A B hA,?_,?_⟩)
      ·have:=h2.1 i _ (.inr ⟨rfl,rfl⟩) hbef
       rw[show Yl P oi.op (fr.put oj.dst u) σ' v=Yl P oi.op fr σ' v from congrFun (yli u) σ'];exact this
      ·rw[yli,Array.setIfInBounds_comm _ _ hji,J1 (d:=oj.dst) (d':=oi.dst) (fun t ht e=>a2 t e ht)]
       exact h2.2
     ·obtain⟨u,h2,h3⟩:=N4 hcj h1
      rw[if_neg hcj]at h2;refine h3 _ ?_;rw[if_neg hcj];refine ih (L.setIfInBounds j true) _ (fr.put oj.dst u) σ hL' hfree' hr' (.inl ⟨fun A B hA=>by rw[gdi];exact hg A B hA,?_,?_⟩)
      ·rw[show Yl P oi.op (fr.put oj.dst u) σ v=Yl P oi.op fr σ v from congrFun (yli u) σ]
       exact hy
      ·rw[yli,Array.setIfInBounds_comm _ _ hji,J1 (d:=oj.dst) (d':=oi.dst) (fun t ht e=>a2 t e ht),Ahp]
       rw[Ad0 a1]at h2;exact h2
    ·refine ih (L.setIfInBounds j true) S (fr.put oj.dst (.v undef)) σ hL' hfree' hr' (.inl ⟨fun A B hA=>by rw[gdi];exact hg A B hA,?_,?_⟩)
     ·rw[show Yl P oi.op (fr.put oj.dst (.v undef)) σ v=Yl P oi.op fr σ v from congrFun (yli _) σ]
      exact hy
     ·rw[yli,Array.setIfInBounds_comm _ _ hji,J1 (d:=oj.dst) (d':=oi.dst) (fun t ht e=>a2 t e ht)]
      exact h1
   ·have h1:=H.2 j (ready_mono hj hji)
    unfold Sn at h1;simp only[hoj]at h1;rw[Ack a1]at h1;refine H9 (fun h1=>?_) (fun h1=>?_) h1
    ·rw[Ac4 a1]at h1
     refine Kd _ _ (fun u σ' h2=>?_) h1;by_cases hcj:cls P oj.op=2
     ·rw[if_pos hcj]at h2⊢
      refine⟨h2.1,ih (L.setIfInBounds j true) S (fr.put oj.dst u) σ' hL' hfree' hr' (.inr ⟨fun A B hA=>by rw[gdi];exact hg A B hA,hv,?_⟩)⟩;rw[Array.setIfInBounds_comm _ _ hji,J1 (d:=oj.dst) (d':=oi.dst) (fun t ht e=>a2 t e ht)];exact h2.2
     ·rw[if_neg hcj]at h2⊢
      refine ih (L.setIfInBounds j true) _ (fr.put oj.dst u) σ' hL' hfree' hr' (.inr ⟨fun A B hA=>by rw[gdi];exact hg A B hA,hv,?_⟩);rw[Array.setIfInBounds_comm _ _ hji,J1 (d:=oj.dst) (d':=oi.dst) (fun t ht e=>a2 t e ht)];rw[Ad0 a1]at h2;exact h2
    ·refine ih (L.setIfInBounds j true) S (fr.put oj.dst (.v undef)) σ hL' hfree' hr' (.inr ⟨fun A B hA=>by rw[gdi];exact hg A B hA,hv,?_⟩)
     rw[Array.setIfInBounds_comm _ _ hji,J1 (d:=oj.dst) (d':=oi.dst) (fun t ht e=>a2 t e ht)];exact h1
inductive PS where
 |rd (i:Nat) (keep:Bool)
 |ef (i:Nat) (chk:List Nat)
def aLk(c:Nat):List (Nat×(St→Prop))→St→Prop
 | [],_=>True
 |(i,q)::r,σ=>(c=i→q σ)∧aLk c r σ
def aChk:List Nat→List (Nat×(St→Prop))→St→Prop
 | [],_,_=>True
 |c::cs,S,σ=>aLk c S σ∧aChk cs S σ
def Cm(P:Program)(ds:List (Option Nat))(l:List Oper)(K:Fr→St→Prop):List PS→List (Nat×(St→Prop))→Fr→St→Prop
 | [],_,fr,σ=>K fr σ
 | .rd i keep::r,S,fr,σ=>match l[i]? with
  |none=>False
  |some o=>aGd ds fr o.guard (aOp P o.op fr σ fun v σ'=>Cm P ds l K r (if keep then(i,fun σ''=>Yl P o.op fr σ'' v)::S else S) (fr.put o.dst v) σ') (Cm P ds l K r S (fr.put o.dst (.v undef)) σ)
 | .ef i chk::r,S,fr,σ=>match l[i]? with
  |none=>False
  |some o=>aGd ds fr o.guard (aOp P o.op fr σ fun v σ'=>aChk chk S σ'∧Cm P ds l K r S (fr.put o.dst v) σ') (Cm P ds l K r S (fr.put o.dst (.v undef)) σ)
def Hi(P:Program)(ops:Array Oper)(i:Nat):Nat:=match ops[i]? with
 |some o=>cls P o.op
 |none=>3
def Fj(P:Program)(ops:Array Oper):List PS→Array Bool→List Nat→Bool
 | [],L,_=>(Region.ready .any ops L).isEmpty
 | .rd i keep::r,L,N=>(Region.ready .any ops L).contains i&&(Hi P ops i==0||(Hi P ops i==1&&keep))&&Region.free .any ops L i&&Fj P ops r (L.setIfInBounds i true) (if keep then i::N else N)
 | .ef i chk::r,L,N=>(Region.ready .any ops L== [i])&&(Hi P ops i==2)&&(N.all fun p=>Eg ops ops.size i p||chk.contains p)&&Fj P ops r (L.setIfInBounds i true) N
theorem Agm{ds:List (Option Nat)}{fr:Fr}{g:Option (Nat×Bool)}{A B:Prop}(h:aGd ds fr g A B):
  ((∀A' B':Prop,A'→aGd ds fr g A' B')∧A)∨((∀A' B':Prop,B'→aGd ds fr g A' B')∧B):=by
 unfold aGd at h⊢;cases g with
 |none=>exact .inl ⟨fun _ _ h=>h,h⟩
 |some q=>
  obtain⟨j,want⟩:=q;simp only at h⊢;revert h;generalize ds.getD j none=z;cases z with
  |none=>exact fun h=>h.elim
  |some d=>
   simp only;generalize fr d=x;cases x with
   |v y=>cases y with
    |bool b=>
     intro h;cases want<;>cases b
     ·exact .inl ⟨fun _ _ h=>h,h⟩
     ·exact .inr ⟨fun _ _ h=>h,h⟩
     ·exact .inr ⟨fun _ _ h=>h,h⟩
     ·exact .inl ⟨fun _ _ h=>h,h⟩
    |_=>exact fun h=>.inr ⟨fun _ _ h=>h,h⟩
   |_=>exact fun h=>h.elim
theorem Acv{c:Nat}{q:St→Prop}{σ:St}:∀{S:List (Nat×(St→Prop))},(c,q)∈S→aLk c S σ→q σ
 |(i,r)::S,hm,h=>by
  rcases List.mem_cons.1 hm with e|hm
  ·injection e with e1 e2
   subst e1;subst e2;exact h.1 rfl
  ·exact Acv hm h.2
theorem Wz{S:List (Nat×(St→Prop))}{σ:St}:∀{cs:List Nat} {c:Nat},c∈cs→aChk cs S σ→aLk c S σ
 |d::cs,c,hm,h=>by
  rcases List.mem_cons.1 hm with rfl|hm
  ·exact h.1
  ·exact Wz hm h.2
theorem Is{l:List Oper}:∀(pl:List PS) (L:Array Bool) (N:List Nat) (Sl:List (Nat×(St→Prop))) (S:M0) (fr:Fr) (σ:St),Fj P l.toArray pl L N=true→Nb l.toArray L→
  (∀p q,S p q→(∀σ',q σ')∨(p,q)∈Sl)→(∀x∈Sl,x.1∈N)→Cm P (Ie l.toArray) l K pl Sl fr σ→Rq P l.toArray K pl.length L S fr σ
 | [],L,N,Sl,S,fr,σ,hok,_,_,_,h=>⟨by simpa[Fj]using hok,h⟩
 | .rd i keep::r,L,N,Sl,S,fr,σ,hok,hL,hS,hN,h=>by
  simp only[Fj,Bool.and_eq_true,Bool.or_eq_true,beq_iff_eq]at hok;obtain⟨⟨⟨hr,hc⟩,hf⟩,hok⟩:=hok;have hr:i∈Region.ready .any l.toArray L:=by simpa using hr
  simp only[Cm]at h;cases hi:l[i]? with
  |none=>rw[hi]at h;exact h.elim
  |some o=>
   rw[hi]at h;have hi':l.toArray[i]? =some o:=by simpa using hi
   have hcl:Hi P l.toArray i=cls P o.op:=by simp[Hi,hi]
   rw[hcl]at hc;have hne:cls P o.op≠2:=by rcases hc with h|⟨h,_⟩<;>omega
   rcases Agm h with⟨hg,h⟩|⟨hg,h⟩
   ·obtain⟨v,hk,hy⟩:=N4 hne h
    refine Nn hi' hne r.length L S fr σ hL (Region.free_spec hi' hf) hr (.inl ⟨hg,hy,?_⟩);refine Is r _ _ _ _ _ _ hok (Eb hL hr) ?_ ?_ hk
    ·rintro p q (hp|⟨rfl,rfl⟩)
     ·rcases hS p q hp with h|h
      ·exact .inl h
      ·refine .inr ?_
       split
       ·exact List.mem_cons_of_mem _ h
       ·exact h
     ·rcases hc with h0|⟨_,h0⟩
      ·exact .inl fun σ'=>hy.any h0 σ'
      ·rw[if_pos h0]
       exact .inr (List.mem_cons_self ..)
    ·intro x hx
     cases keep with
     |true=>
      rcases List.mem_cons.1 hx with rfl|hx
      ·exact List.mem_cons_self ..
      ·exact List.mem_cons_of_mem _ (hN x hx)
     |false=>exact hN x hx
   ·refine Nn hi' hne r.length L S fr σ hL (Region.free_spec hi' hf) hr (.inr ⟨hg,rfl,?_⟩)
    refine Is r _ _ _ _ _ _ hok (Eb hL hr) hS ?_ h;intro x hx;cases keep with
    |true=>exact List.mem_cons_of_mem _ (hN x hx)
    |false=>exact hN x hx
 | .ef i chk::r,L,N,Sl,S,fr,σ,hok,hL,hS,hN,h=>by
  simp only[Fj,Bool.and_eq_true,beq_iff_eq]at hok;obtain⟨⟨⟨hr,hc⟩,hn⟩,hok⟩:=hok;have hri:i∈Region.ready .any l.toArray L:=by rw[hr];simp
  refine⟨fun h=>(by rw[h]at hr;cases hr),fun j hj=>?_⟩;rw[hr]at hj;obtain rfl:j=i:=by simpa using hj
  simp only[Cm]at h;cases hi:l[j]? with
  |none=>rw[hi]at h;exact h.elim
  |some o=>
   rw[hi]at h;have hi':l.toArray[j]? =some o:=by simpa using hi
   have hcl:Hi P l.toArray j=cls P o.op:=by simp[Hi,hi]
   rw[hcl]at hc;unfold Sn;rw[hi'];refine H9 (fun h=>Kd _ _ (fun v σ' hv=>?_) h) (fun h=>?_) h
   ·rw[if_pos hc]
    refine⟨fun p q hpq hb=>?_,Is r _ N Sl S _ _ hok (Eb hL hri) hS hN hv.2⟩;rcases hS p q hpq with h|h
    ·exact h σ'
    ·have:=List.all_eq_true.1 hn p (hN _ h)
     rw[hb,Bool.false_or]at this;exact Acv h (Wz (by simpa using this) hv.1)
   ·exact Is r _ N Sl S _ _ hok (Eb hL hri) hS hN h
theorem Sf{l:List Oper}{fr:Fr}{σ:St}(pl:List PS)(hm:P.follows .mixedOrders=true)(hlen:(pl.length==l.length)=true)(hok:Fj P l.toArray pl (Array.replicate l.length false) []=true)
  (h:Cm P (l.map (·.dst)) l K pl (@hid _ ⟨[]⟩) fr σ):U1 P l.toArray K fr σ:=by
 refine N0 hm ?_;have e:pl.length=l.toArray.size:=by simpa using hlen
 rw[←e];refine Is pl _ [] [] _ fr σ ?_ ?_ (fun _ _ h=>h.elim) (fun x hx=>by cases hx) h
 ·rw[e];simpa using hok
 ·intro i o hi
  rw[e]at hi;rcases Nat.lt_or_ge i l.length with h'|h'
  ·simp[Array.getElem?_replicate,h']at hi
  ·simp[Array.getElem?_replicate,Nat.not_lt.2 h']at hi
theorem Af{P:Program}{K:Fr→St→Prop}{l:List Oper}{fr:Fr}{σ:St}(pl:List PS)(h:Cm P (l.map (·.dst)) l K pl (@hid _ ⟨[]⟩) fr σ)(hm:P.follows .mixedOrders=true:=by kernel_rfl)(hlen:(pl.length==l.length)=true:=by kernel_rfl)(hok:Fj P l.toArray pl (Array.replicate l.length false) []=true:=by kernel_rfl):U1 P l.toArray K fr σ:=Sf pl hm hlen hok h
def aRd(P:Program)(ds:List (Option Nat))(l:List Oper)(K:Fr→St→Prop)(keep:Bool)(i:Nat)(r:List PS)(S:List (Nat×(St→Prop)))(fr:Fr)(σ:St):Option Oper→Prop
 |none=>False
 |some o=>aGd ds fr o.guard (aOp P o.op fr σ fun v σ'=>Cm P ds l K r (if keep then(i,fun σ''=>Yl P o.op fr σ'' v)::S else S) (fr.put o.dst v) σ') (Cm P ds l K r S (fr.put o.dst (.v undef)) σ)
def aEf(P:Program)(ds:List (Option Nat))(l:List Oper)(K:Fr→St→Prop)(chk:List Nat)(r:List PS)(S:List (Nat×(St→Prop)))(fr:Fr)(σ:St):Option Oper→Prop
 |none=>False
 |some o=>aGd ds fr o.guard (aOp P o.op fr σ fun v σ'=>aChk chk S σ'∧Cm P ds l K r S (fr.put o.dst v) σ') (Cm P ds l K r S (fr.put o.dst (.v undef)) σ)
section
variable{ds:List (Option Nat)}{l:List Oper}{S:List (Nat×(St→Prop))}{fr:Fr}{σ:St}{r:List PS}{i:Nat}{chk:List Nat}{d:Option Nat}{op:Op}{t:TypeId}{p:String}{e:Array Edge}{g:Nat×Bool}
@[go_sem] theorem Ba0:Cm P ds l K [] S fr σ=K fr σ:=_root_.id rfl
@[go_sem] theorem p_rd{keep:Bool}:Cm P ds l K (.rd i keep::r) S fr σ=aRd P ds l K keep i r S fr σ (l[i]?):=by
 simp only[Cm,aRd]
 first|done|(cases l[i]? <;>rfl)
@[go_sem] theorem p_ef:Cm P ds l K (.ef i chk::r) S fr σ=aEf P ds l K chk r S fr σ (l[i]?):=by
 simp only[Cm,aEf]
 first|done|(cases l[i]? <;>rfl)
@[go_sem] theorem rd_k:aRd P ds l K true i r S fr σ (some {dst:=d,op:=op,type:=t,pos:=p,after:=e,guard:=none})=aOp P op fr σ (@hid _ ⟨fun v σ'=>Cm P ds l K r (@hid _ ⟨(i,fun σ''=>Yl P op fr σ'' v)::S⟩) (fr.put d v) σ'⟩):=_root_.id rfl
@[go_sem] theorem rd_n:aRd P ds l K false i r S fr σ (some {dst:=d,op:=op,type:=t,pos:=p,after:=e,guard:=none})=aOp P op fr σ (@hid _ ⟨fun v σ'=>Cm P ds l K r S (fr.put d v) σ'⟩):=_root_.id rfl
@[go_sem] theorem Bbc:aRd P ds l K true i r S fr σ (some {dst:=d,op:=op,type:=t,pos:=p,after:=e,guard:=some g})=aGd ds fr (some g) (@hid _ ⟨aOp P op fr σ (@hid _ ⟨fun v σ'=>Cm P ds l K r (@hid _ ⟨(i,fun σ''=>Yl P op fr σ'' v)::S⟩) (fr.put d v) σ'⟩)⟩) (@hid _ ⟨Cm P ds l K r S (fr.put d (.v undef)) σ⟩):=_root_.id rfl
@[go_sem] theorem Bbd:aRd P ds l K false i r S fr σ (some {dst:=d,op:=op,type:=t,pos:=p,after:=e,guard:=some g})=aGd ds fr (some g) (@hid _ ⟨aOp P op fr σ (@hid _ ⟨fun v σ'=>Cm P ds l K r S (fr.put d v) σ'⟩)⟩) (@hid _ ⟨Cm P ds l K r S (fr.put d (.v undef)) σ⟩):=_root_.id rfl
@[go_sem] theorem ef_0:aEf P ds l K chk r S fr σ (some {dst:=d,op:=op,type:=t,pos:=p,after:=e,guard:=none})=aOp P op fr σ (@hid _ ⟨fun v σ'=>aChk chk S σ'∧Cm P ds l K r S (fr.put d v) σ'⟩):=_root_.id rfl
@[go_sem] theorem ef_g:aEf P ds l K chk r S fr σ (some {dst:=d,op:=op,type:=t,pos:=p,after:=e,guard:=some g})=aGd ds fr (some g) (@hid _ ⟨aOp P op fr σ (@hid _ ⟨fun v σ'=>aChk chk S σ'∧Cm P ds l K r S (fr.put d v) σ'⟩)⟩) (@hid _ ⟨Cm P ds l K r S (fr.put d (.v undef)) σ⟩):=_root_.id rfl
@[go_sem] theorem Au9:aChk [] S σ=True:=_root_.id rfl
@[go_sem] theorem Aty{c:Nat}{cs:List Nat}:aChk (c::cs) S σ=(aLk c S σ∧aChk cs S σ):=_root_.id rfl
@[go_sem] theorem Axy{c:Nat}:aLk c (@hid _ ⟨[]⟩) σ=True:=_root_.id rfl
@[go_sem] theorem Awb{c:Nat}{q:St→Prop}:aLk c (@hid _ ⟨(i,q)::S⟩) σ=((c=i→q σ)∧aLk c S σ):=_root_.id rfl
@[go_sem] theorem yl_r{o:Op}{v:AV}:Yl P o fr σ v=∀k:AV→St→Prop,k v σ→aOp P o fr σ k:=_root_.id rfl
end
end
section
variable{P:Program}
theorem Qc{ds:List (Option Nat)}{K K':Fr→St→Prop}(hk:∀fr σ,K fr σ→K' fr σ):∀(l:List Oper) (fr:Fr) (σ:St),M1 P ds l K fr σ→M1 P ds l K' fr σ
 | [],fr,σ,h=>hk fr σ h
 |o::l,fr,σ,h=>H9 (fun h=>Kd _ _ (fun v σ' hv=>Qc hk l _ _ hv) h) (fun h=>Qc hk l _ _ h) h
theorem Ma{ops:Array Oper}{K K':Fr→St→Prop}(hk:∀fr σ,K fr σ→K' fr σ):∀(l:List Nat) (fr:Fr) (σ:St),Jl P ops l K fr σ→Jl P ops l K' fr σ
 | [],fr,σ,h=>hk fr σ h
 |i::l,fr,σ,h=>by
  rw[U3]at h⊢;split at h
  ·exact Ma hk l _ _ h
  ·exact H9 (fun h=>Kd _ _ (fun v σ' hv=>Ma hk l _ _ hv) h) (fun h=>Ma hk l _ _ h) h
def AK.le(K K':AK):Prop:=∀e fr σ,K e fr σ→K' e fr σ
theorem AK.le_then{A A':Fr→St→Prop}{K K':AK}(ha:∀fr σ,A fr σ→A' fr σ)(hk:K.le K'):(AK.then A K).le (AK.then A' K'):=fun e fr σ h=>by
 cases e with
 |normal=>exact ha _ _ h
 |exit id=>exact hk (.exit id) _ _ h
 |goto l=>exact hk (.goto l) _ _ h
 |ret=>exact hk .ret _ _ h
theorem Ds:∀(c:Code) {K K':AK},K.le K'→∀(fr:Fr) (σ:St),A7 P c K fr σ→A7 P c K' fr σ
 | .skip,_,_,hk,fr,σ,h=>hk .normal _ _ h
 | .label _,_,_,hk,fr,σ,h=>hk .normal _ _ h
 | .exit id,_,_,hk,fr,σ,h=>hk (.exit id) _ _ h
 | .ret,_,_,hk,fr,σ,h=>hk .ret _ _ h
 | .region _ ops false,_,_,hk,fr,σ,h=>Qc (fun fr σ h=>hk .normal _ _ h) _ _ _ h
 | .region _ ops true,_,_,hk,fr,σ,h=>fun t=>Ma (fun fr σ h=>hk .normal _ _ h) _ _ _ (h t)
 | .seq x y,_,_,hk,fr,σ,h=>Ds x (AK.le_then (fun fr σ h=>Ds y hk _ _ h) hk) _ _ h
 | .cond c x y,K,K',hk,fr,σ,h=>by
  simp only[A7]at h⊢;unfold Yu at h⊢;split at h
  ·exact Si (fun h=>Ds x hk _ _ h) (fun h=>Ds y hk _ _ h) h
  ·exact h.elim
 | .block id x,K,K',hk,fr,σ,h=>Ds x (fun e fr σ h=>by
   cases e with
   |exit j=>
    simp only[AK.block]at h⊢;split
    ·rename_i hj;rw[if_pos hj]at h;exact hk .normal _ _ h
    ·rename_i hj;rw[if_neg hj]at h;exact hk (.exit j) _ _ h
   |normal=>exact hk .normal _ _ h
   |goto l=>exact hk (.goto l) _ _ h
   |ret=>exact hk .ret _ _ h) _ _ h
 | .scope x,K,K',hk,fr,σ,h=>Ds x (fun e fr σ h=>by
   cases e with
   |goto l=>exact h.elim
   |normal=>exact hk .normal _ _ h
   |exit j=>exact hk (.exit j) _ _ h
   |ret=>exact hk .ret _ _ h) _ _ h
 | .loop x,K,K',hk,fr,σ,⟨I,h0,hr⟩=>⟨I,h0,fun m fr σ hI=>Ds x (AK.le_then (fun _ _ h=>h) hk) _ _ (hr m fr σ hI)⟩
 | .rangeFunc g ps x y,K,K',hk,fr,σ,h=>by
  simp only[A7,K7]at h⊢;split at h
  ·intro n l h1 h2
   refine(h n l h1 h2).mono fun _ σ' h=>?_;unfold Nc at h⊢;split at h
   ·refine⟨h.1,?_⟩
    have h:=h.2;unfold Sj at h⊢;split at h
    ·exact hk .normal _ _ h
    ·exact hk .ret _ _ h
    ·exact hk (.exit _) _ _ h
    ·exact h.elim
   ·exact h.elim
  ·exact h.elim
 | .goto _,_,_,_,_,_,h=>h.elim
 | .refuse _,_,_,_,_,_,h=>h.elim
def Ng(P:Program)(x:Code)(K:AK):Nat→Fr→St→Prop
 |0,_,_=>False
 |n+1,fr,σ=>A7 P x (AK.then (Ng P x K n) K) fr σ
theorem Jj{x:Code}{K:AK}{fr:Fr}{σ:St}(n:Nat)(h:Ng P x K n fr σ):Aii (@hid _ ⟨A7 P x⟩) K fr σ:=
 ⟨fun m fr σ=>Ng P x K m fr σ,⟨n,h⟩,fun m fr σ h=>by
  cases m with
  |zero=>exact h.elim
  |succ m=>exact Ds x (AK.le_then (fun fr σ h=>⟨m,Nat.lt_succ_self m,h⟩) fun _ _ _ h=>h) _ _ h⟩
@[go_sem] theorem Ba4{x:Code}{K:AK}{n:Nat}{fr:Fr}{σ:St}:Ng P x K (n+1) fr σ=A7 P x (@hid _ ⟨AK.then (Ng P x K n) K⟩) fr σ:=_root_.id rfl
end
theorem Jk{P:Program}{x:Code}{A:Fr→St→Prop}{K:AK}{fr:Fr}{σ:St}(M:Fr→St→Prop)(h1:A7 P x (@hid _ ⟨AK.then M K⟩) fr σ)(h2:∀fr σ,M fr σ→A fr σ):A7 P x (@hid _ ⟨AK.then A K⟩) fr σ:=
 Ds x (AK.le_then h2 fun _ _ _ h=>h) fr σ h1
theorem C0{P:Program}{x y:Code}{A:Fr→St→Prop}{K:AK}{fr:Fr}{σ:St}{p:Prop}[Decidable p](M:Fr→St→Prop)(h1:p→A7 P x (@hid _ ⟨AK.then M K⟩) fr σ)(h2:¬p→A7 P y (@hid _ ⟨AK.then M K⟩) fr σ)(h3:∀fr σ,M fr σ→A fr σ):
  aIf (decide p) (@hid _ ⟨A7 P x (@hid _ ⟨AK.then A K⟩) fr σ⟩) (@hid _ ⟨A7 P y (@hid _ ⟨AK.then A K⟩) fr σ⟩):=
 aIf_by (fun h=>Jk M (h1 h) h3) fun h=>Jk M (h2 h) h3
theorem U2{P:Program}{x y:Code}{A:Fr→St→Prop}{K:AK}{fr:Fr}{σ:St}{p:Bool}(M:Fr→St→Prop)(h1:p=true→A7 P x (@hid _ ⟨AK.then M K⟩) fr σ)(h2:p=false→A7 P y (@hid _ ⟨AK.then M K⟩) fr σ)(h3:∀fr σ,M fr σ→A fr σ):
  aIf p (@hid _ ⟨A7 P x (@hid _ ⟨AK.then A K⟩) fr σ⟩) (@hid _ ⟨A7 P y (@hid _ ⟨AK.then A K⟩) fr σ⟩):=
 aIf_bool (fun h=>Jk M (h1 h) h3) fun h=>Jk M (h2 h) h3
theorem Am{x:Int}(h: -9223372036854775808≤x∧x≤9223372036854775807):IntKind.i64.wrap x=x:=by
 simp[IntKind.wrap,IntKind.signed,IntKind.bits];omega
theorem Aux{x:Int}(h:0≤x∧x≤255):IntKind.u8.wrap x=x:=by
 simp[IntKind.wrap,IntKind.signed,IntKind.bits];omega
theorem Iq{i:Nat}(h:i<9223372036854775807):IntKind.i64.wrap ((i:Int)+1)=((i+1:Nat):Int):=by
 rw[Am (by omega)];omega
theorem As(i:Nat)(h:i<9223372036854775807):IntKind.i64.wrap ((i:Int)+1)=((i+1:Nat):Int):=Iq h
theorem An{σ σ':St}{r:AV}(h:∀b o,σ' b=some o→σ b=some o):Hf σ r σ' r:=fun F w x hs hv=>
 ⟨F,⟨.refl F w,rfl,rfl,rfl,Nat.le_refl _,fun b _ hb=>⟨rfl,(by
  cases h':σ' b with
  |none=>rfl
  |some o=>(rw[h b o h']at hb;cases hb)),rfl⟩⟩,⟨fun b o hb=>hs.obj b o (h b o hb),hs.lt⟩,hv⟩
theorem B7{σ σ0:St}{b:Nat}{o:Cj}(hb:σ0 b=none)(h:∀x p,σ0 x=some p→σ x=some p):∀x p,σ0 x=some p→(σ.set b o) x=some p:=fun x p hx=>by
 have:x≠b:=fun e=>by subst e;rw[hb]at hx;cases hx
 rw[Ag this];exact h x p hx
theorem Df{σ σ0:St}{b:Nat}(h:∀x p,σ0 x=some p→σ x=some p)(hb:σ b=none):σ0 b=none:=by
 cases h':σ0 b with
 |none=>rfl
 |some o=>rw[h b o h']at hb;cases hb
def LAt(q:Nat)(σ:St)(lv:AV)(es:List (List AV)):Prop:=
 (lv= .v (.slice none 0 0)∧es=[])∨lv= .fsl q es∨∃b cap,lv= .v (.slice (some ⟨b,0,none⟩) es.length cap)∧es.length≤cap∧σ b=some (.rows q es false cap)
def Own(lv:AV)(x:Nat):Prop:=∃n c,lv= .v (.slice (some ⟨x,0,none⟩) n c)
section
variable{q:Nat}{σ σ':St}{lv:AV}{es ys:List (List AV)}{K:AV→Prop}{k:AV→St→Prop}
theorem LAt.none:LAt q σ (.v (.slice none 0 0)) []:=.inl ⟨rfl,rfl⟩
theorem LAt.full:LAt q σ (.fsl q es) es:=.inr (.inl rfl)
theorem LAt.cells(h:LAt q σ lv es):lv.cells=[lv]:=by
 rcases h with⟨rfl,_⟩|rfl|⟨b,cap,rfl,_⟩<;>rfl
theorem LAt.one(h:LAt q σ lv es):lv.one=true:=by
 rcases h with⟨rfl,_⟩|rfl|⟨b,cap,rfl,_⟩<;>rfl
theorem LAt.own_rows(h:LAt q σ lv es){x:Nat}(ho:Own lv x):∃cap,σ x=some (.rows q es false cap):=by
 obtain⟨n,c,ho⟩:=ho;rcases h with⟨rfl,_⟩|rfl|⟨b,cap,rfl,_,hb⟩
 ·cases ho
 ·cases ho
 ·injection ho with ho
  injection ho with ho;injection ho with ho;injection ho with ho;subst ho;exact⟨cap,hb⟩
theorem LAt.not_own(h:LAt q σ lv es){x:Nat}{cs:List AV}(hx:σ x=some (.cells cs)):¬Own lv x:=fun ho=>by
 obtain⟨c,hc⟩:=h.own_rows ho;rw[hx]at hc;cases hc
theorem LAt.keep(h:LAt q σ lv es)(hs:∀x o,σ x=some o→Own lv x→σ' x=some o):LAt q σ' lv es:=by
 rcases h with⟨rfl,he⟩|rfl|⟨b,cap,rfl,hc,hb⟩
 ·exact .inl ⟨rfl,he⟩
 ·exact .inr (.inl rfl)
 ·exact .inr (.inr ⟨b,cap,rfl,hc,hs b _ hb ⟨_,_,rfl⟩⟩)
theorem LAt.len{ag:Bool}{sz eby:Nat}{zr ez:List Value}{byt:Bool}(h:LAt q σ lv es):K6 (some ⟨ag,sz,zr,.sl q eby ez byt⟩) lv K=K (.v (.int .i64 es.length)):=by
 rcases h with⟨rfl,rfl⟩|rfl|⟨b,cap,rfl,_⟩<;>rfl
theorem LAt.upto{ag:Bool}{sz eby:Nat}{zr ez:List Value}{byt:Bool}{ik:IntKind}{j:Int}(h:LAt q σ lv es)(h0:0≤j)(h1:j≤es.length)
  (hk:∀x,(∀σ' byt',LAt q σ' lv es→src q byt' σ' x=some (es.take j.toNat))→K x):aSli (some ⟨ag,sz,zr,.sl q eby ez byt⟩) σ lv .none (some (.v (.int ik j))) .none K:=by
 rcases h with⟨rfl,rfl⟩|rfl|⟨b,cap,rfl,hc,hb⟩
 ·have hj:j=0:=by simp at h1;omega
  subst hj;exact .inr ⟨[],rfl,0,0,rfl,rfl,by omega,by omega,by simp,.inl ⟨rfl,hk _ fun σ' byt' _=>by simp[src]⟩⟩
 ·exact .inr ⟨es,by simp[view],0,j,rfl,rfl,by omega,h0,h1,.inl ⟨rfl,hk _ fun σ' byt' _=>by simp[src]⟩⟩
 ·refine .inl ⟨b,0,_,cap,rfl,0,j,cap,rfl,rfl,.inl ⟨rfl,rfl⟩,by omega,h0,by omega,by omega,?_⟩
  have e:Gn (cap:Int).toNat (0:Int).toNat 0 q=0:=by simp[Gn]
  rw[e];refine hk _ fun σ' byt' h'=>?_;rcases h' with⟨h',_⟩|h'|⟨b',cap',h',_,hb'⟩
  ·cases h'
  ·cases h'
  ·injection h' with h'
   injection h' with h' _ _;injection h' with h';injection h' with h';subst h';simp only[src,hb'];rw[if_pos ⟨trivial,by simp,by simp;omega⟩];simp
theorem LAt.from{ag:Bool}{sz eby:Nat}{zr ez:List Value}{byt:Bool}{ik:IntKind}{j:Int}(h:LAt q σ lv es)(hq:0<q)(h0:0≤j)(h1:j≤es.length)
  (hk:∀x,(∀σ' byt',LAt q σ' lv es→src q byt' σ' x=some (es.drop j.toNat))→K x):aSli (some ⟨ag,sz,zr,.sl q eby ez byt⟩) σ lv (some (.v (.int ik j))) .none .none K:=by
 rcases h with⟨rfl,rfl⟩|rfl|⟨b,cap,rfl,hc,hb⟩
 ·have hj:j=0:=by simp at h1;omega
  subst hj;exact .inr ⟨[],rfl,0,0,rfl,rfl,by omega,by omega,by simp,.inl ⟨rfl,hk _ fun σ' byt' _=>by simp[src]⟩⟩
 ·exact .inr ⟨es,by simp[view],j,es.length,rfl,rfl,h0,h1,by omega,.inl ⟨rfl,hk _ fun σ' byt' _=>by simp[src]⟩⟩
 ·refine .inl ⟨b,0,_,cap,rfl,j,es.length,cap,rfl,rfl,.inl ⟨rfl,rfl⟩,h0,h1,by omega,by omega,?_⟩
  simp only[Int.toNat_natCast];refine hk _ fun σ' byt' h'=>?_;rcases h' with⟨h',_⟩|h'|⟨b',cap',h',_,hb'⟩
  ·cases h'
  ·cases h'
  ·injection h' with h'
   injection h' with h' _ _;injection h' with h';injection h' with h';subst h';simp only[src,hb'];unfold Gn;split
   ·rename_i hm
    have:j.toNat=es.length:=by omega
    rw[if_pos ⟨trivial,by simp,by simp⟩];simp[this]
   ·rw[if_pos ⟨trivial,by simp,by simp[hq];omega⟩]
    simp only[Nat.zero_add];rw[Nat.mul_div_cancel _ hq,List.take_of_length_le (by simp)]
theorem LAt.app{eby:Nat}(h:LAt q σ lv es)(hb:(es.length+ys.length)*eby≤140737488355328)
  (hk:∀lv' σ',LAt q σ' lv' (es++ys)→(∀x o,σ x=some o→¬Own lv x→σ' x=some o∧¬Own lv' x)→k lv' σ'):F9 q eby ys σ lv k:=by
 rcases h with⟨rfl,rfl⟩|rfl|⟨b,cap,rfl,hc,hbr⟩
 ·refine⟨fun e=>?_,fun e=>⟨by simpa using hb,fun b cap hb0 hle=>?_⟩⟩
  ·subst e
   exact hk _ _ (.inl ⟨rfl,rfl⟩) fun x o hx hn=>⟨hx,hn⟩
  ·refine hk _ _ (.inr (.inr ⟨b,cap,by simp,by simpa using hle,by rw[Ab];simp⟩)) fun x o hx hn=>?_
   have hne:x≠b:=fun e=>by subst e;rw[hb0]at hx;cases hx
   refine⟨by rw[Ag hne];exact hx,fun⟨n,c,ho⟩=>?_⟩;injection ho with ho;injection ho with ho _ _;injection ho with ho;injection ho with ho;exact hne ho.symm
 ·refine⟨rfl,fun e=>?_,fun e=>⟨hb,fun b cap hb0 hle=>?_⟩⟩
  ·subst e
   rw[←List.append_nil es];exact hk _ _ (by rw[List.append_nil];exact .inr (.inl rfl)) fun x o hx hn=>⟨hx,fun⟨n,c,ho⟩=>by cases ho⟩
  ·refine hk _ _ (.inr (.inr ⟨b,cap,by simp,by simpa using hle,by rw[Ab]⟩)) fun x o hx hn=>?_
   have hne:x≠b:=fun e=>by subst e;rw[hb0]at hx;cases hx
   refine⟨by rw[Ag hne];exact hx,fun⟨n,c,ho⟩=>?_⟩;injection ho with ho;injection ho with ho _ _;injection ho with ho;injection ho with ho;exact hne ho.symm
 ·refine .inr (.inl ⟨rfl,?_⟩)
  simp only[hbr];refine⟨trivial,trivial,trivial,hb,fun b' cap' hb0 hle=>?_⟩;refine hk _ _ (.inr (.inr ⟨b',cap',by simp,by simpa using hle,by rw[Ab]⟩)) fun x o hx hn=>?_;have hnb:x≠b:=fun e=>by subst e;exact hn ⟨_,_,rfl⟩
  have hdel:(σ.del b) x=some o:=by simp[St.del,hnb,hx]
  have hne:x≠b':=fun e=>by subst e;rw[hb0]at hdel;cases hdel
  refine⟨by rw[Ag hne];exact hdel,fun⟨n,c,ho⟩=>?_⟩;injection ho with ho;injection ho with ho _ _;injection ho with ho;injection ho with ho;exact hne ho.symm
theorem LAt.app_row{eby:Nat}(h:LAt q σ lv es)(hy:ys≠[])(hb:(es.length+ys.length)*eby≤140737488355328)
  (hk:∀b cap σ',es.length+ys.length≤cap→σ' b=some (.rows q (es++ys) false cap)→(∀x o,σ x=some o→¬Own lv x→σ' x=some o∧x≠b)→k (.v (.slice (some ⟨b,0,Option.none⟩) (es.length+ys.length) cap)) σ'):F9 q eby ys σ lv k:=by
 rcases h with⟨rfl,rfl⟩|rfl|⟨b,cap,rfl,hc,hbr⟩
 ·refine⟨fun e=>absurd e hy,fun e=>⟨by simpa using hb,fun b cap hb0 hle=>?_⟩⟩
  have:=hk b cap (σ.set b (.rows q ys false cap)) (by simpa using hle) (by rw[Ab];simp) fun x o hx hn=>?_
  ·simpa using this
  ·have hne:x≠b:=fun e=>by subst e;rw[hb0]at hx;cases hx
   exact⟨by rw[Ag hne];exact hx,hne⟩
 ·refine⟨rfl,fun e=>absurd e hy,fun e=>⟨hb,fun b cap hb0 hle=>?_⟩⟩
  refine hk b cap _ hle Ab fun x o hx hn=>?_;have hne:x≠b:=fun e=>by subst e;rw[hb0]at hx;cases hx
  exact⟨by rw[Ag hne];exact hx,hne⟩
 ·refine .inr (.inl ⟨rfl,?_⟩)
  simp only[hbr];refine⟨trivial,trivial,trivial,hb,fun b' cap' hb0 hle=>?_⟩;refine hk b' cap' _ hle Ab fun x o hx hn=>?_;have hnb:x≠b:=fun e=>by subst e;exact hn ⟨_,_,rfl⟩
  have hdel:(σ.del b) x=some o:=by simp[St.del,hnb,hx]
  have hne:x≠b':=fun e=>by subst e;rw[hb0]at hdel;cases hdel
  exact⟨by rw[Ag hne];exact hdel,hne⟩
theorem Ap{ag:Bool}{sz eby:Nat}{zr ez:List Value}{byt:Bool}{s x:AV}(hs:src q byt σ x=some ys)(hq:0<q)(he:0<eby)(hz:ez.all Value.oneCell'=true)(h:F9 q eby ys σ s k):aApp (some ⟨ag,sz,zr,.sl q eby ez byt⟩) σ s x k:=
 ⟨hq,he,hz,ys,hs,h⟩
theorem Aa6{ag:Bool}{sz eby:Nat}{zr ez:List Value}{byt:Bool}{ik:IntKind}{j:Int}(h0:0≤j)(h1:j≤es.length)(hk:K (.sl q (es.take j.toNat))):aSli (some ⟨ag,sz,zr,.sl q eby ez byt⟩) σ (.sl q es) .none (some (.v (.int ik j))) .none K:=
 .inr ⟨es,by simp[view],0,j,rfl,rfl,by omega,h0,h1,.inl ⟨rfl,by simpa using hk⟩⟩
theorem Aa5{ag:Bool}{sz eby:Nat}{zr ez:List Value}{byt:Bool}{ik:IntKind}{j:Int}(h0:0≤j)(h1:j≤es.length)(hk:K (.sl q (es.drop j.toNat))):aSli (some ⟨ag,sz,zr,.sl q eby ez byt⟩) σ (.sl q es) (some (.v (.int ik j))) .none .none K:=
 .inr ⟨es,by simp[view],j,es.length,rfl,rfl,h0,h1,by omega,.inl ⟨rfl,by simpa using hk⟩⟩
end
inductive VW(σ σ':St):AV→AV→Prop
 |refl (a:AV):VW σ σ' a a
 |nil (q:Nat):VW σ σ' (.v (.slice none 0 0)) (.sl q [])
 |full (q:Nat) (es es':List (List AV)) (hl:es'.length=es.length) (hk:∀i,i<es.length→(es'.getD i []).length=(es.getD i []).length)
   (h:∀i j,i<es.length→j<(es.getD i []).length→VW σ σ' ((es.getD i []).getD j (.v undef)) ((es'.getD i []).getD j (.v undef))):VW σ σ' (.fsl q es) (.sl q es')
 |part (q:Nat) (es es':List (List AV)) (hl:es'.length=es.length) (hk:∀i,i<es.length→(es'.getD i []).length=(es.getD i []).length)
   (h:∀i j,i<es.length→j<(es.getD i []).length→VW σ σ' ((es.getD i []).getD j (.v undef)) ((es'.getD i []).getD j (.v undef))):VW σ σ' (.sl q es) (.sl q es')
 |rowp (b q:Nat) (es es':List (List AV)) (frz:Bool) (cap n c:Nat) (hb:σ b=some (.rows q es frz cap)) (hb':σ' b=none) (hn:n≤es.length) (hc:n≤c) (hl:es'.length=n) (hk:∀i,i<n→(es'.getD i []).length=(es.getD i []).length)
   (h:∀i j,i<n→j<(es.getD i []).length→VW σ σ' ((es.getD i []).getD j (.v undef)) ((es'.getD i []).getD j (.v undef))):VW σ σ' (.v (.slice (some ⟨b,0,none⟩) n c)) (.sl q es')
 |agg (cs cs':List AV) (hl:cs'.length=cs.length) (h:∀j,j<cs.length→VW σ σ' (cs.getD j (.v undef)) (cs'.getD j (.v undef))):VW σ σ' (.agg cs) (.agg cs')
 |tup (cs cs':List AV) (hl:cs'.length=cs.length) (h:∀j,j<cs.length→VW σ σ' (cs.getD j (.v undef)) (cs'.getD j (.v undef))):VW σ σ' (.tup cs) (.tup cs')
theorem VW.row{σ σ':St}(b q:Nat)(es es':List (List AV))(frz:Bool)(cap n c:Nat)(hb:σ b=some (.rows q es frz cap))(hb':σ' b=none)(hn:n=es.length)(hc:n≤c)(hl:es'.length=es.length)(hk:∀i,i<es.length→(es'.getD i []).length=(es.getD i []).length)
  (h:∀i j,i<es.length→j<(es.getD i []).length→VW σ σ' ((es.getD i []).getD j (.v undef)) ((es'.getD i []).getD j (.v undef))):VW σ σ' (.v (.slice (some ⟨b,0,none⟩) n c)) (.sl q es'):=
 .rowp b q es es' frz cap n c hb hb' (by omega) hc (by omega) (fun i hi=>hk i (by omega)) fun i j hi hj=>h i j (by omega) hj
theorem VW.one{σ σ':St}{a a':AV}(h:VW σ σ' a a')(h1:a.one=true):a'.one=true:=by
 cases h<;>first|exact h1|rfl|cases h1
def VWs(σ σ':St)(cs cs':List AV):Prop:=cs'.length=cs.length∧∀j,j<cs.length→VW σ σ' (cs.getD j (.v undef)) (cs'.getD j (.v undef))
def VWm(σ σ':St):List (Value×AV)→List (Value×AV)→Prop
 | [],[]=>True
 |(x,v)::l,(x',v')::l'=>x'=x∧VW σ σ' v v'∧VWm σ σ' l l'
 |_,_=>False
def OW(σ σ':St):Cj→Cj→Prop
 | .cells cs,.cells cs'=>VWs σ σ' cs cs'
 | .rows q es frz cap,.rows q' es' frz' cap'=>q'=q∧frz'=frz∧cap'=cap∧es'.length=es.length∧∀i,i<es.length→VWs σ σ' (es.getD i []) (es'.getD i [])
 | .map kv,.map kv'=>VWm σ σ' kv kv'
 | .loop fr n ps x y st pend,o'=>o'= .loop fr n ps x y st pend
 |_,_=>False
def SV(σ σ':St):Prop:=∀b o',σ' b=some o'→∃o,σ b=some o∧OW σ σ' o o'
theorem Bu{σ σ':St}(cs:List AV):VWs σ σ' cs cs:=⟨rfl,fun j _=>.refl _⟩
theorem By{σ σ':St}:VWs σ σ' [] []:=Bu []
theorem vws_cons{σ σ':St}{a a':AV}{l l':List AV}(h:VW σ σ' a a')(hl:VWs σ σ' l l'):VWs σ σ' (a::l) (a'::l'):=
 ⟨by simp[hl.1],fun j hj=>by
  cases j with
  |zero=>exact h
  |succ j=>exact hl.2 j (by simpa using hj)⟩
theorem vws_same{σ σ':St}{a:AV}{l l':List AV}(hl:VWs σ σ' l l'):VWs σ σ' (a::l) (a::l'):=vws_cons (.refl a) hl
theorem Abp{σ σ':St}:∀(kv:List (Value×AV)),VWm σ σ' kv kv
 | []=>trivial
 |(x,v)::l=>⟨rfl,.refl v,Abp l⟩
theorem Aph{σ σ':St}(o:Cj):OW σ σ' o o:=by
 cases o with
 |cells cs=>exact Bu cs
 |rows q es frz cap=>exact⟨rfl,rfl,rfl,rfl,fun i _=>Bu _⟩
 |map kv=>exact Abp kv
 |loop fr n ps x y st pend=>exact rfl
theorem Es{σ σ':St}(h:∀x o',σ' x=some o'→σ x=some o'∨∃o,σ x=some o∧OW σ σ' o o'):SV σ σ':=fun x o' hx=>by
 rcases h x o' hx with h|h
 ·exact⟨o',h,Aph o'⟩
 ·exact h
theorem Ks{σ σ':St}{b:Nat}{o o':Cj}(h1:σ b=some o)(h2:OW σ (σ'.set b o') o o')(h3:∀x p,x≠b→σ' x=some p→σ x=some p):SV σ (σ'.set b o'):=
 Es fun x p hx=>by
  by_cases hxb:x=b
  ·subst hxb
   rw[Ab]at hx;injection hx with hx;subst hx;exact .inr ⟨o,h1,h2⟩
  ·rw[Ag hxb]at hx
   exact .inl (h3 x p hxb hx)
theorem Jn{P:Program}{Q:AV→St→Prop}{fr:Fr}{σ:St}{t tt b:Nat}{i:TK}{cs:List AV}(σ':St)(r':AV)(hfr:fr t= .v (.pointer (some ⟨b,0,none⟩)))(hb:σ b=some (.cells cs))(hi:tk P tt=some i)(hag:i.ag=true)(hsz:i.sz=cs.length)
  (hv:Hf σ (.agg cs) σ' r') (hq:Q r' σ'):Dw P Q [.cell t tt] fr σ:=
 ⟨.agg cs,by simp[A9,Rh,Sk,Yy,hfr,hi,hag,hb,hsz,oneR],r',σ',hv,hq⟩
def Ee(F:Bl)(σ σ':St):Bl:=fun b=>match σ' b,σ b with
 |none,some (.rows q es _ _)=>es.length*q
 |_,_=>F b
section
variable{F:Bl}{w:World}{σ σ':St}
theorem Ag9(hs:Rel F w σ)(b:Nat):F b≤Ee F σ σ' b:=by
 unfold Ee;split
 ·rename_i q es frz cap h1 h2
  obtain⟨c,e,m,g1,g2,g3,g4,g5,g6,g7⟩:=hs.obj b _ h2;rw[g6];split<;>omega
 ·exact Nat.le_refl _
theorem Ot(hs:Rel F w σ):B9 F w (Ee F σ σ') w:=⟨Ag9 hs,fun _ _ _=>rfl⟩
theorem Z8{b:Nat}{o:Cj}(h:σ' b=some o):Ee F σ σ' b=F b:=by
 unfold Ee;rw[h]
theorem Abo(hs:Rel F w σ){a a':AV}(h:VW σ σ' a a'):∀x,RV F w a x→RV (Ee F σ σ') w a' x:=by
 have hkp:B9 F w (Ee F σ σ') w:=Ot hs
 induction h with
 |refl a=>exact fun x hx=>hx.mono hkp
 |nil q=>
  intro x hx;rw[hx.eq];exact .sl0 _ _ _
 |full q es es' hl hk h ih=>
  intro x hx;cases hx with
  |fsl0 _ a=>
   have:es'=[]:=List.eq_nil_of_length_eq_zero (by simpa using hl);subst this;exact .sl0 _ _ _
  |fsl _ _ b o c n hn hkk hF hc hr=>
   have hq:∀i,i<es.length→(es.getD i []).length=q∧(es.getD i []).all AV.one=true:=fun i hi=>by
    rw[List.getD_eq_getElem?_getD,List.getElem?_eq_getElem hi];exact hkk _ (List.getElem_mem hi)
   refine .sl q es' b o c n n (by omega) ?_ (Nat.le_refl _) (by rw[hl];exact Nat.le_trans hF (hkp.le b)) (fun j hj=>hc j (by rw[hl]at hj;exact hj)) (fun i j hi hj=>?_)
   ·intro e he
    obtain⟨i,hi,rfl⟩:=List.mem_iff_getElem.1 he;have hi':i<es.length:=by omega
    have e1:es'[i]=es'.getD i []:=by simp[List.getD_eq_getElem?_getD,hi]
    rw[e1];refine⟨(hk i hi').trans (hq i hi').1,List.all_eq_true.2 fun y hy=>?_⟩;obtain⟨j,hj,rfl⟩:=List.mem_iff_getElem.1 hy;have hj':j<(es.getD i []).length:=by rw[←hk i hi'];exact hj
    have:=(h i j hi' hj').one (by
     rw[List.getD_eq_getElem?_getD,List.getElem?_eq_getElem hj'];exact List.all_eq_true.1 (hq i hi').2 _ (List.getElem_mem hj'))
    rw[List.getD_eq_getElem?_getD,List.getElem?_eq_getElem hj]at this;exact this
   ·rw[hl]at hi
    exact ih i j hi (by rw[(hq i hi).1];exact hj) _ (hr i j hi hj)
 |part q es es' hl hk h ih=>
  intro x hx;cases hx with
  |sl0 _ a cap=>
   have:es'=[]:=List.eq_nil_of_length_eq_zero (by simpa using hl);subst this;exact .sl0 _ _ _
  |sl _ _ b o c n cap hn hkk hcap hF hc hr=>
   have hq:∀i,i<es.length→(es.getD i []).length=q∧(es.getD i []).all AV.one=true:=fun i hi=>by
    rw[List.getD_eq_getElem?_getD,List.getElem?_eq_getElem hi];exact hkk _ (List.getElem_mem hi)
   refine .sl q es' b o c n cap (by omega) ?_ hcap (by rw[hl];exact Nat.le_trans hF (hkp.le b)) (fun j hj=>hc j (by rw[hl]at hj;exact hj)) (fun i j hi hj=>?_)
   ·intro e he
    obtain⟨i,hi,rfl⟩:=List.mem_iff_getElem.1 he;have hi':i<es.length:=by omega
    have e1:es'[i]=es'.getD i []:=by simp[List.getD_eq_getElem?_getD,hi]
    rw[e1];refine⟨(hk i hi').trans (hq i hi').1,List.all_eq_true.2 fun y hy=>?_⟩;obtain⟨j,hj,rfl⟩:=List.mem_iff_getElem.1 hy;have hj':j<(es.getD i []).length:=by rw[←hk i hi'];exact hj
    have:=(h i j hi' hj').one (by
     rw[List.getD_eq_getElem?_getD,List.getElem?_eq_getElem hj'];exact List.all_eq_true.1 (hq i hi').2 _ (List.getElem_mem hj'))
    rw[List.getD_eq_getElem?_getD,List.getElem?_eq_getElem hj]at this;exact this
   ·rw[hl]at hi
    exact ih i j hi (by rw[(hq i hi).1];exact hj) _ (hr i j hi hj)
 |rowp b q es es' frz cap n cc hb hb' hn hcc hl hk h ih=>
  intro x hx;rw[hx.eq];obtain⟨c,e,m,g1,g2,g3,g4,g5,g6,g7⟩:=hs.obj b _ hb;have hq:∀i,i<es.length→(es.getD i []).length=q∧(es.getD i []).all AV.one=true:=fun i hi=>by
   rw[List.getD_eq_getElem?_getD,List.getElem?_eq_getElem hi];exact g4 _ (List.getElem_mem hi)
  have hle:es.length*q≤cap*q:=Nat.mul_le_mul_right _ g3;have hnl:n*q≤es.length*q:=Nat.mul_le_mul_right _ hn;have hF:Ee F σ σ' b=es.length*q:=by unfold Ee;rw[hb',hb]
  refine .sl q es' b 0 (fun j=>c.getD j undef) n cc (by omega) ?_ hcc (by rw[hl,hF];omega) (fun j hj=>?_) (fun i j hi hj=>?_)
  ·intro e he
   obtain⟨i,hi,rfl⟩:=List.mem_iff_getElem.1 he;have hi':i<n:=by omega
   have e1:es'[i]=es'.getD i []:=by simp[List.getD_eq_getElem?_getD,hi]
   rw[e1];refine⟨(hk i hi').trans (hq i (by omega)).1,List.all_eq_true.2 fun y hy=>?_⟩;obtain⟨j,hj,rfl⟩:=List.mem_iff_getElem.1 hy;have hj':j<(es.getD i []).length:=by rw[←hk i hi'];exact hj
   have:=(h i j hi' hj').one (by
    rw[List.getD_eq_getElem?_getD,List.getElem?_eq_getElem hj'];exact List.all_eq_true.1 (hq i (by omega)).2 _ (List.getElem_mem hj'))
   rw[List.getD_eq_getElem?_getD,List.getElem?_eq_getElem hj]at this;exact this
  ·rw[hl]at hj
   have hlt:j<c.size:=by omega
   simp[World.cell?,g1,hlt]
  ·rw[hl]at hi
   exact ih i j hi (by rw[(hq i (by omega)).1];exact hj) _ (g7 i j (by omega) hj)
 |agg cs cs' hl h ih=>
  intro x hx;cases hx with
  |agg _ vs hl' h'=>exact .agg cs' vs (by omega) fun j hj=>ih j (by omega) _ (h' j (by omega))
 |tup cs cs' hl h ih=>
  intro x hx;cases hx with
  |tup _ vs hl' h'=>exact .tup cs' vs (by omega) fun j hj=>ih j (by omega) _ (h' j (by omega))
theorem Agh{cs cs':List AV}(h:VWs σ σ' cs cs')(h1:cs.all AV.one=true):cs'.all AV.one=true:=List.all_eq_true.2 fun y hy=>by
 obtain⟨j,hj,rfl⟩:=List.mem_iff_getElem.1 hy;have hj':j<cs.length:=by rw[←h.1];exact hj
 have:=(h.2 j hj').one (by
  rw[List.getD_eq_getElem?_getD,List.getElem?_eq_getElem hj'];exact List.all_eq_true.1 h1 _ (List.getElem_mem hj'))
 simpa[List.getD_eq_getElem?_getD,hj]using this
theorem Ame(hs:Rel F w σ):∀{kv kv':List (Value×AV)} {es:List MapEntry},VWm σ σ' kv kv'→KVs F w kv es→KVs (Ee F σ σ') w kv' es
 | [],[],[],_,_=>trivial
 |(x,v)::l,(x',v')::l',e::es,h,g=>⟨by rw[h.1];exact g.1,Abo hs h.2.1 _ g.2.1,Ame hs h.2.2 g.2.2⟩
 | [],_::_,_,h,_=>h.elim
 |_::_,[],_,h,_=>h.elim
 | [],[],_::_,_,g=>g.elim
 |_::_,_::_,[],_,g=>g.elim
theorem view_of{a a':AV}(hS:SV σ σ')(ha:VW σ σ' a a'):Hf σ a σ' a':=by
 intro F w x hs hv;have hkp:B9 F w (Ee F σ σ') w:=Ot hs;refine⟨Ee F σ σ',⟨hkp,rfl,rfl,rfl,Nat.le_refl _,fun b _ hb=>⟨rfl,?_,?_⟩⟩,⟨fun b o' hb=>?_,fun b hb=>?_⟩,Abo hs ha x hv⟩
 ·cases h':σ' b with
  |none=>rfl
  |some o=>
   obtain⟨o,ho,_⟩:=hS b o h';rw[hb]at ho;cases ho
 ·unfold Ee
  rw[hb];split
  ·rename_i h;cases h
  ·rfl
 ·obtain⟨o,ho,how⟩:=hS b o' hb
  have hh:=hs.obj b o ho;have hFb:Ee F σ σ' b=F b:=Z8 hb;cases o with
  |cells cs=>
   cases o' with
   |cells cs'=>
    obtain⟨c,e,m,g1,g2,g3,g4,g5,g6⟩:=hh;exact⟨c,e,m,g1,by rw[g2,how.1],g3,hFb.trans g4,Agh how g5,fun j hj=>Abo hs (how.2 j (by rw[←how.1];exact hj)) _ (g6 j (by rw[←how.1];exact hj))⟩
   |_=>exact how.elim
  |rows q es frz cap=>
   cases o' with
   |rows q' es' frz' cap'=>
    obtain⟨rfl,rfl,rfl,hl,hw⟩:=how;obtain⟨c,e,m,g1,g2,g3,g4,g5,g6,g7⟩:=hh;have hq:∀i,i<es.length→(es.getD i []).length=q'∧(es.getD i []).all AV.one=true:=fun i hi=>by
     rw[List.getD_eq_getElem?_getD,List.getElem?_eq_getElem hi];exact g4 _ (List.getElem_mem hi)
    refine⟨c,e,m,g1,g2,by omega,fun e he=>?_,g5,by rw[hFb,g6,hl],fun i j hi hj=>?_⟩
    ·obtain⟨i,hi,rfl⟩:=List.mem_iff_getElem.1 he
     have hi':i<es.length:=by omega
     have e1:es'[i]=es'.getD i []:=by simp[List.getD_eq_getElem?_getD,hi]
     rw[e1];exact⟨(hw i hi').1.trans (hq i hi').1,Agh (hw i hi') (hq i hi').2⟩
    ·rw[hl]at hi
     exact Abo hs ((hw i hi).2 j (by rw[(hq i hi).1];exact hj)) _ (g7 i j hi hj)
   |_=>exact how.elim
  |map kv=>
   cases o' with
   |map kv'=>
    obtain⟨es,clk,g1,g2,g3⟩:=hh;exact⟨es,clk,g1,hFb.trans g2,Ame hs how g3⟩
   |_=>exact how.elim
  |loop fr n ps x y st pend=>
   have how:o'= .loop fr n ps x y st pend:=how;subst how;have:=hh.mono hkp rfl hFb;exact this
 ·unfold Ee
  split
  ·rename_i q es frz cap h1 h2
   have:=hs.lt_size h2;omega
  ·exact hs.lt b hb
end
def Cg(σ0 σ:St)(lv:AV):Prop:=∀y p,σ0 y=some p→σ y=some p∧¬Own lv y
section
variable{q:Nat}{σ0 σ σ':St}{lv lv':AV}{es es':List (List AV)}
theorem Cg.nil:Cg σ σ (.v (.slice none 0 0)):=fun y p h=>⟨h,fun⟨n,c,e⟩=>by cases e⟩
theorem Cg.sub(h:Cg σ0 σ lv):∀y p,σ0 y=some p→σ y=some p:=fun y p hy=>(h y p hy).1
theorem Cg.step(h:Cg σ0 σ lv)(hs:∀x o,σ x=some o→¬Own lv x→σ' x=some o∧¬Own lv' x):Cg σ0 σ' lv':=fun y p hy=>hs y p (h y p hy).1 (h y p hy).2
theorem Cg.own(h:Cg σ0 σ lv){x:Nat}(hx:Own lv x):σ0 x=none:=by
 cases h':σ0 x with
 |none=>rfl
 |some p=>exact absurd hx (h x p h').2
theorem LAt.vw(h:LAt q σ lv es)(hd:∀x,Own lv x→σ' x=Option.none)(hl:es'.length=es.length)(hk:∀i,i<es.length→VWs σ σ' (es.getD i []) (es'.getD i [])):VW σ σ' lv (.sl q es'):=by
 rcases h with⟨rfl,rfl⟩|rfl|⟨b,cap,rfl,hc,hb⟩
 ·have:es'=[]:=List.eq_nil_of_length_eq_zero (by simpa using hl)
  subst this;exact .nil q
 ·exact .full q es es' hl (fun i hi=>(hk i hi).1) fun i j hi hj=>(hk i hi).2 j hj
 ·exact .row b q es es' false cap _ _ hb (hd b ⟨_,_,rfl⟩) rfl hc hl (fun i hi=>(hk i hi).1) fun i j hi hj=>(hk i hi).2 j hj
theorem LAt.vw_same(h:LAt q σ lv es)(hd:∀x,Own lv x→σ' x=Option.none):VW σ σ' lv (.sl q es):=h.vw hd rfl fun i _=>Bu _
end
theorem Z7(F:Bl)(σ:St):Ee F σ σ=F:=by
 funext b;unfold Ee;cases σ b<;>rfl
theorem Amf{F:Bl}{w:World}{σ:St}{cs cs':List AV}{vs:List Value}(hs:Rel F w σ)(h:VWs σ σ cs cs')(hv:RVs F w cs vs):RVs F w cs' vs:=
 ⟨hv.1.trans h.1.symm,fun j hj=>by
  have hj':j<cs.length:=by rw[←h.1];exact hj
  have:=Abo hs (h.2 j hj') _ (hv.2 j hj');rwa[Z7]at this⟩
theorem AT.weak{P:Program}{f:FuncId}{args args':List AV}{σ:St}{Q:AV→St→Prop}(h:AT P f args' σ Q)(hw:VWs σ σ args args'):AT P f args σ Q:=by
 rcases h with⟨h1,h2⟩|⟨h1,h2⟩
 ·exact .inl ⟨h1,fun F w vs hs hv=>h2 F w vs hs (Amf hs hw hv)⟩
 ·refine .inr ⟨h1,h2.elim (fun⟨h3,h2⟩=>.inl ⟨h3,?_⟩) fun h=>.inr ⟨h.1,fun F w vs hs hv=>h.2 F w vs hs (Amf hs hw hv)⟩⟩
  unfold Nf at h2;split at h2
  ·rename_i t r
   match args,hw with
   | [],hw=>exact absurd hw.1 (by simp)
   |_::_::_,hw=>exact absurd hw.1 (by simp)
   | [a],hw=>
    have:=hw.2 0 (by simp);simp only[List.getD_cons_zero]at this;cases this
    exact h2
  ·exact h2.elim
theorem AT.post{P:Program}{f:FuncId}{args:List AV}{σ:St}{Q Q':AV→St→Prop}(h:AT P f args σ Q)(hn:Vp P f=false)(hq:∀r σ',Q r σ'→∃r2 σ2,Hf σ' r σ2 r2∧Q' r2 σ2):AT P f args σ Q':=by
 rcases h with⟨h1,h2⟩|⟨h1,h2⟩
 ·refine .inl ⟨h1,fun F w vs hs hv=>(h2 F w vs hs hv).mono fun e w' ⟨x,F',σ',r,g1,g2,g3,g4,g5⟩=>?_⟩
  obtain⟨r2,σ2,hv,hq2⟩:=hq r σ' g5;obtain⟨F2,k1,k2,k3⟩:=hv F' w' x g3 g4;exact⟨x,F2,σ2,r2,g1,g2.trans k1,k2,k3,hq2⟩
 ·rw[hn]at h1;cases h1
open Go Go.RowKit Go.ChangeShapes Go.WideShapes
open Go.ChangeMaps (open_string shut_string)
def Each(p:TypeId→List AV→Prop):List TypeId→List AV→Prop
 | [],cs=>cs=[]
 |t::ts,cs=>∃x y,cs=x++y∧p t x∧Each p ts y
def Aih(p:List AV→Prop):Nat→List AV→Prop
 |0,cs=>cs=[]
 |n+1,cs=>∃x y,cs=x++y∧p x∧Aih p n y
def Ty(P:Program):Nat→TypeId→List AV→Prop
 |0,_,_=>False
 |n+1,t,cs=>match P.underlying t with
  |some .bool=>∃b,cs=[.v (.bool b)]
  |some (.int k)=>∃x,cs=[.v (.int k x)]∧(Lit.int k x).wf=true
  |some .string=>∃s,cs=[.v (.string s)]∧s.size≤140737488351232
  |some (.slice e)=>∃es,cs=[.sl (P.cellsOf e) es]∧es.length*P.bytesOf e≤140737488351232∧∀x∈es,Ty P n e x
  |some (.struct fs)=>Each (Ty P n) (fs.toList.map Field.type) cs
  |some (.array k e)=>Aih (Ty P n e) k cs
  |_=>False
def TyA(P:Program)(n:Nat)(t:TypeId)(a:AV):Prop:=
 match P.underlying t with
 |some (.struct _)|some (.array _ _)=>∃cs,a= .agg cs∧Ty P n t cs
 |_=>Ty P n t [a]
def TyAs(P:Program)(n:Nat):List TypeId→List AV→Prop
 | [],[]=>True
 |t::ts,a::as=>TyA P n t a∧TyAs P n ts as
 |_,_=>False
theorem Al6{P:Program}{n:Nat}{xs:List AV}(h:TyAs P n [] xs):xs=[]:=by
 cases xs with
 |nil=>rfl
 |cons a xs=>exact h.elim
theorem Wi{P:Program}{n:Nat}{t:TypeId}{ts:List TypeId}{xs:List AV}(h:TyAs P n (t::ts) xs):∃a ys,xs=a::ys∧TyA P n t a∧TyAs P n ts ys:=by
 cases xs with
 |nil=>exact h.elim
 |cons a xs=>exact⟨a,xs,rfl,h.1,h.2⟩
theorem Auw{P:Program}{n:Nat}{t:TypeId}{xs:List AV}(h:TyAs P n [t] xs):∃a,xs=[a]∧TyA P n t a:=by
 obtain⟨a,ys,rfl,ha,h⟩:=Wi h;obtain rfl:=Al6 h;exact⟨a,rfl,ha⟩
theorem tyAs2{P:Program}{n:Nat}{t u:TypeId}{xs:List AV}(h:TyAs P n [t,u] xs):∃a b,xs=[a,b]∧TyA P n t a∧TyA P n u b:=by
 obtain⟨a,ys,rfl,ha,h⟩:=Wi h;obtain⟨b,rfl,hb⟩:=Auw h;exact⟨a,b,rfl,ha,hb⟩
theorem Agf{P:Program}{n:Nat}{t:TypeId}{cs:List AV}(hu:P.underlying t=some .bool)(h:Ty P (n+1) t cs):∃b,cs=[.v (.bool b)]:=by
 unfold Ty at h;rw[hu]at h;exact h
theorem Adx{P:Program}{n:Nat}{t:TypeId}{k:IntKind}{cs:List AV}(hu:P.underlying t=some (.int k))(h:Ty P (n+1) t cs):∃x,cs=[.v (.int k x)]∧(Lit.int k x).wf=true:=by
 unfold Ty at h;rw[hu]at h;exact h
theorem Jh{P:Program}{n:Nat}{t:TypeId}{cs:List AV}(hu:P.underlying t=some .string)(h:Ty P (n+1) t cs):∃s,cs=[.v (.string s)]∧s.size≤140737488351232:=by
 unfold Ty at h;rw[hu]at h;exact h
theorem Uk{P:Program}{n:Nat}{t e:TypeId}{cs:List AV}(hu:P.underlying t=some (.slice e))(h:Ty P (n+1) t cs):∃es,cs=[.sl (P.cellsOf e) es]∧es.length*P.bytesOf e≤140737488351232∧∀x∈es,Ty P n e x:=by
 unfold Ty at h;rw[hu]at h;exact h
theorem Ul{P:Program}{n:Nat}{t:TypeId}{fs:Array Field}{cs:List AV}(hu:P.underlying t=some (.struct fs))(h:Ty P (n+1) t cs):Each (Ty P n) (fs.toList.map Field.type) cs:=by
 unfold Ty at h;rw[hu]at h;exact h
def Tl(P:Program):Nat→List Field→Nat→Bool
 |o,[],m=>o==m
 |o,f::fs,m=>f.offset==o&&Tl P (o+P.cellsOf f.type) fs m
def plain(P:Program):Nat→TypeId→Bool
 |0,_=>false
 |n+1,t=>match P.underlying t with
  |some .bool|some (.int _)|some .string=>P.cellsOf t==1
  |some (.slice e)=>P.cellsOf t==1&&plain P n e&&decide (0<P.cellsOf e)
  |some (.struct fs)=>Tl P 0 fs.toList (P.cellsOf t)&&fs.toList.all fun f:Field=>plain P n f.type
  |some (.array k e)=>P.cellsOf t==k*P.cellsOf e&&plain P n e
  |_=>false
def Np(w:World):Bl:=fun b=>match w.heap[b]? with
 |some (.cells c _ _)=>c.size
 |_=>0
theorem Ahu(w:World):Rel (Np w) w (fun _=>none):=
 ⟨fun b o h=>(by cases h),fun b hb=>(by simp[Np,Array.getElem?_eq_none hb])⟩
theorem Aha{w:World}{b o:Nat}{v:Value}(h:w.cell? ⟨b,o,none⟩=some v):o<Np w b:=by
 unfold World.cell? at h;unfold Np;split at h
 ·rename_i c e m hc
  simp only at hc;rw[hc];simp at h;exact(Array.getElem?_eq_some_iff.1 h).1
 ·cases h
theorem Y6{p:Nat→List AV→Prop}(n:Nat)(h:∀i,i<n→∃x,p i x):∃es:List (List AV),es.length=n∧∀i,i<n→p i (es.getD i []):=by
 induction n with
 |zero=>exact⟨[],rfl,fun i hi=>by omega⟩
 |succ n ih=>
  obtain⟨es,h1,h2⟩:=ih fun i hi=>h i (by omega);obtain⟨x,hx⟩:=h n (by omega);refine⟨es++[x],by simp[h1],fun i hi=>?_⟩;by_cases hin:i<n
  ·have:=h2 i hin
   simpa[List.getD_eq_getElem?_getD,List.getElem?_append_left (h1▸hin)]using this
  ·obtain rfl:i=n:=by omega
   simpa[List.getD_eq_getElem?_getD,←h1]using hx
section
variable{H:Type}{enc:TypeId×Value→H}{P:Program}{w:World}
theorem RVs.one1{F:Bl}{a:AV}{x:Value}(h:RV F w a x):RVs F w [a] [x]:=
 ⟨rfl,fun j hj=>by
  obtain rfl:j=0:=by simpa using hj
  exact h⟩
theorem RVs.app{F:Bl}{cs cs':List AV}{vs vs':List Value}(h:RVs F w cs vs)(h':RVs F w cs' vs'):RVs F w (cs++cs') (vs++vs'):=
 ⟨by simp[h.1,h'.1],fun j hj=>by
  simp only[List.getD_eq_getElem?_getD];by_cases hlt:j<cs.length
  ·rw[List.getElem?_append_left hlt,List.getElem?_append_left (by rw[h.1];exact hlt)]
   simpa[List.getD_eq_getElem?_getD]using h.2 j hlt
  ·rw[List.getElem?_append_right (by omega),List.getElem?_append_right (by rw[h.1];omega),h.1]
   have:=h'.2 (j-cs.length) (by simp at hj;omega);simpa[List.getD_eq_getElem?_getD]using this⟩
def Ad4(P:Program)(n:Nat)(w:World)(t:TypeId)(cs:List Value):Prop:=
 ∃avs,Ty P n t avs∧RVs (Np w) w avs cs∧avs.all AV.one=true∧avs.length=P.cellsOf t
theorem Vg{n m:Nat}{cs:List Value}(ih:∀(t:TypeId) (cs:List Value) (x:DataW H×List MemPlace),plain P n t=true→DataW.trod enc P w 0 (fun _=>true) true m t cs=some x→(∀q∈x.1.weights P t,q≤reachBytes)→Ad4 P n w t cs):
  ∀(fs:List Field) (o:Nat) (xs:List (DataW H×List MemPlace)),Tl P o fs cs.length=true→(fs.all fun f:Field=>plain P n f.type)=true→xs.length=fs.length→
   (∀(i:Nat) (f:Field),fs[i]? =some f→DataW.trod enc P w 0 (fun _=>true) true m f.type ((cs.drop f.offset).take (P.cellsOf f.type))=xs[i]?)→
   (∀q∈DataW.weightsEach P (fs.map Field.type) (xs.map (·.1)),q≤reachBytes)→
   ∃avs,Each (Ty P n) (fs.map Field.type) avs∧RVs (Np w) w avs (cs.drop o)∧avs.all AV.one=true∧o+avs.length=cs.length
 | [],o,xs,hf,hp,hl,hx,hw=>by
  simp only[Tl,beq_iff_eq]at hf;refine⟨[],rfl,⟨by simp[hf],fun j hj=>by simp at hj⟩,rfl,by simpa using hf⟩
 |f::fs,o,[],hf,hp,hl,hx,hw=>by simp at hl
 |f::fs,o,x::xs,hf,hp,hl,hx,hw=>by
  simp only[Tl,Bool.and_eq_true,beq_iff_eq]at hf;simp only[List.all_cons,Bool.and_eq_true]at hp;have h0:=hx 0 f rfl;simp only[List.getElem?_cons_zero]at h0;obtain⟨a,a1,a2,a3,a4⟩:=ih f.type _ x hp.1 h0 (fun q hq=>hw q (by simp only[List.map_cons,DataW.weightsEach,List.mem_append];exact .inl hq));obtain⟨b,b1,b2,b3,b4⟩:=Vg (cs:=cs) ih fs (o+P.cellsOf f.type) xs hf.2 hp.2 (by simpa using hl) (fun i g hg=>by simpa using hx (i+1) g (by simpa using hg)) (fun q hq=>hw q (by simp only[List.map_cons,DataW.weightsEach,List.mem_append];exact .inr hq));refine⟨a++b,⟨a,b,rfl,a1,b1⟩,?_,by simp[a3,b3],by simp;omega⟩;have hcut:cs.drop o=(cs.drop f.offset).take (P.cellsOf f.type)++cs.drop (o+P.cellsOf f.type):=by
   rw[hf.1,←List.drop_drop,List.take_append_drop]
  rw[hcut];exact a2.app b2
theorem Ui{n m:Nat}{e:TypeId}{cs:List Value}(ih:∀(cs:List Value) (x:DataW H×List MemPlace),DataW.trod enc P w 0 (fun _=>true) true m e cs=some x→(∀q∈x.1.weights P e,q≤reachBytes)→Ad4 P n w e cs):
  ∀(k o:Nat) (xs:List (DataW H×List MemPlace)),o+k*P.cellsOf e=cs.length→xs.length=k→
   (∀i,i<k→DataW.trod enc P w 0 (fun _=>true) true m e ((cs.drop (o+i*P.cellsOf e)).take (P.cellsOf e))=xs[i]?)→
   (∀q∈DataW.weightsAll P e (xs.map (·.1)),q≤reachBytes)→
   ∃avs,Aih (Ty P n e) k avs∧RVs (Np w) w avs (cs.drop o)∧avs.all AV.one=true∧o+avs.length=cs.length
 |0,o,xs,hf,hl,hx,hw=>by
  simp only[Nat.zero_mul,Nat.add_zero]at hf;refine⟨[],rfl,⟨by simp[hf],fun j hj=>by simp at hj⟩,rfl,by simpa using hf⟩
 |k+1,o,[],hf,hl,hx,hw=>by simp at hl
 |k+1,o,x::xs,hf,hl,hx,hw=>by
  have h0:=hx 0 (by omega);simp only[List.getElem?_cons_zero,Nat.zero_mul,Nat.add_zero]at h0;rw[Nat.add_mul,Nat.one_mul]at hf;obtain⟨a,a1,a2,a3,a4⟩:=ih _ x h0 (fun q hq=>hw q (by simp only[List.map_cons,DataW.weightsAll,List.mem_append];exact .inl hq))
  obtain⟨b,b1,b2,b3,b4⟩:=Ui (cs:=cs) ih k (o+P.cellsOf e) xs (by omega) (by simpa using hl) (fun i hi=>by
   have:=hx (i+1) (by omega);rw[Nat.add_mul,Nat.one_mul]at this;rw[show o+P.cellsOf e+i*P.cellsOf e=o+(i*P.cellsOf e+P.cellsOf e) by omega];simpa using this) (fun q hq=>hw q (by simp only[List.map_cons,DataW.weightsAll,List.mem_append];exact .inr hq))
  refine⟨a++b,⟨a,b,rfl,a1,b1⟩,?_,by simp[a3,b3],by rw[List.length_append];omega⟩;have hcut:cs.drop o=(cs.drop o).take (P.cellsOf e)++cs.drop (o+P.cellsOf e):=by
   rw[←List.drop_drop,List.take_append_drop]
  rw[hcut];exact a2.app b2
theorem L6{e:TypeId}:∀{ds:List (DataW H)} {d:DataW H},d∈ds→∀q∈d.weights P e,q∈DataW.weightsAll P e ds
 |d0::ds,d,hd,q,hq=>by
  simp only[DataW.weightsAll,List.mem_append];rcases List.mem_cons.1 hd with rfl|hd
  ·exact .inl hq
  ·exact .inr (L6 hd q hq)
theorem Ac5:∀(n:Nat) (m:Nat) (t:TypeId) (cs:List Value) (x:DataW H×List MemPlace),plain P n t=true→DataW.trod enc P w 0 (fun _=>true) true m t cs=some x→(∀q∈x.1.weights P t,q≤reachBytes)→Ad4 P n w t cs:=by
 intro n
 induction n with
 |zero=>intro m t cs x hp;simp[plain]at hp
 |succ n ih=>
  intro m t cs x hp hx hw;unfold plain at hp;unfold Ad4;unfold Ty;cases hu:P.underlying t with
  |none=>rw[hu]at hp;cases hp
  |some d=>
   rw[hu]at hp;cases d<;>simp only at hp<;>try (exact absurd hp (by decide))
   case bool=>
    obtain⟨b,rfl,rfl⟩:=DataW.trod_bool hu hx;exact⟨[.v (.bool b)],⟨b,rfl⟩,RVs.one1 (.v _),rfl,by simpa using(beq_iff_eq.1 hp).symm⟩
   case int k=>
    obtain⟨b,rfl,rfl,hwf⟩:=DataW.trod_int hu hx;exact⟨[.v (.int k b)],⟨b,rfl,hwf⟩,RVs.one1 (.v _),rfl,by simpa using(beq_iff_eq.1 hp).symm⟩
   case string=>
    obtain⟨s,rfl,rfl,hs⟩:=DataW.trod_string hu hx;refine⟨[.v (.string s)],⟨s,rfl,?_⟩,RVs.one1 (.v _),rfl,by simpa using(beq_iff_eq.1 hp).symm⟩;have:=hw s.data.toList.length (by simp[DataW.weights]);simpa[reachBytes]using this
   case slice e=>
    simp only[Bool.and_eq_true,beq_iff_eq,decide_eq_true_eq]at hp;obtain⟨⟨hp1,hp2⟩,hp3⟩:=hp;rcases DataW.trod_slice hu hx with⟨rfl,rfl⟩|⟨a,len,cap,elems,rest,m',rfl,rfl,rfl,hb,hl,hm,hlen,hel,hsp,hns⟩
    ·exact⟨[.sl (P.cellsOf e) []],⟨[],rfl,by simp,fun x hx=>by cases hx⟩,RVs.one1 (.sl0 _ _ _),rfl,by simpa using hp1.symm⟩
    ·simp only[DataW.weights,hu,List.mem_cons,List.mem_append]at hw
     have hbytes:=hw _ (.inl rfl);have each:∀i,i<len→∃avs,(Ty P n e avs∧avs.all AV.one=true∧avs.length=P.cellsOf e)∧∃vs:List Value,vs.length=P.cellsOf e∧(∀j,j<P.cellsOf e→w.cell? ((a.add (i*P.cellsOf e)).add j)=vs[j]?)∧RVs (Np w) w avs vs:=by
      intro i hi;have h1:=hel i hi;have hi':i<elems.length:=by omega
      rw[List.getElem?_eq_getElem hi']at h1;obtain⟨vs,hcs,htr⟩:=Option.bind_eq_some_iff.1 h1;obtain⟨_,hvl,hvs⟩:=World.cells?_some hcs;obtain⟨avs,k1,k2,k3,k4⟩:=ih m' e vs _ hp2 htr (fun q hq=>hw q (.inr (.inl (L6 (List.mem_map.2 ⟨_,List.getElem_mem hi',rfl⟩) q hq))));exact⟨avs,⟨k1,k3,k4⟩,vs,hvl,hvs,k2⟩
     obtain⟨es,he1,he2⟩:=Y6 len each;refine⟨[.sl (P.cellsOf e) es],⟨es,rfl,?_,?_⟩,RVs.one1 ?_,rfl,by simpa using hp1.symm⟩
     ·have:es.length*P.bytesOf e≤((elems.map (·.1)).length+(rest.map (·.1)).length)*P.bytesOf e:=Nat.mul_le_mul_right _ (by simp;omega)
      exact Nat.le_trans this (by simpa[reachBytes]using hbytes)
     ·intro x hx
      obtain⟨i,hi,rfl⟩:=List.mem_iff_getElem.1 hx;have:=(he2 i (by omega)).1.1;simpa[List.getD_eq_getElem?_getD,hi]using this
     ·by_cases h0:len=0
      ·have:es=[]:=List.eq_nil_of_length_eq_zero (by omega)
       subst this;subst h0;exact .sl0 _ _ _
      ·obtain⟨b,o,sp⟩:=a
       have hsp0:sp=none:=by
        obtain⟨_,vs,hvl,hvs,_⟩:=he2 0 (by omega);have h1:=hvs 0 hp3;rw[List.getElem?_eq_getElem (by omega)]at h1;simp only[Nat.zero_mul,Addr.add,if_pos]at h1;unfold World.cell? at h1;split at h1
        ·cases sp with
         |none=>rfl
         |some _=>simp at h1
        ·cases h1
       subst hsp0;have hadd:∀b o n,(⟨b,o,none⟩:Addr).add n=⟨b,o+n,none⟩:=by
        intro b o n;unfold Addr.add;split
        ·rename_i h;subst h;rfl
        ·rfl
       have hcell:∀i j,i<len→j<P.cellsOf e→∃v,w.cell? ⟨b,o+(i*P.cellsOf e+j),none⟩=some v∧RV (Np w) w ((es.getD i []).getD j (.v undef)) v:=by
        intro i j hi hj;obtain⟨⟨k1,k3,k4⟩,vs,hvl,hvs,hrv⟩:=he2 i hi;have h1:=hvs j hj;rw[List.getElem?_eq_getElem (by omega),hadd,hadd]at h1;refine⟨vs[j]'(by omega),?_,?_⟩
        ·simpa[Nat.add_assoc]using h1
        ·have:=hrv.2 j (by omega)
         simpa[List.getD_eq_getElem?_getD,hvl,hj]using this
       have hall:∀j,j<es.length*P.cellsOf e→w.cell? ⟨b,o+j,none⟩=some ((w.cell? ⟨b,o+j,none⟩).getD undef):=by
        intro j hj;obtain⟨v,hv,_⟩:=hcell (j/P.cellsOf e) (j % P.cellsOf e) (by rw[←he1];exact Nat.div_lt_of_lt_mul (by rw[Nat.mul_comm];exact hj)) (Nat.mod_lt _ hp3);rw[Nat.mul_comm,Nat.div_add_mod]at hv;rw[hv];rfl
       refine .sl _ es b o (fun j=>(w.cell? ⟨b,o+j,none⟩).getD undef) len cap he1.symm ?_ hl ?_ hall ?_
       ·intro x hx
        obtain⟨i,hi,rfl⟩:=List.mem_iff_getElem.1 hx;obtain⟨⟨k1,k3,k4⟩,_⟩:=he2 i (by omega);have e1:es.getD i []=es[i]:=by simp[List.getD_eq_getElem?_getD,hi]
        rw[e1]at k3 k4;exact⟨k4,k3⟩
       ·have hpos:0<es.length*P.cellsOf e:=Nat.mul_pos (by omega) hp3
        have:=Aha (hall (es.length*P.cellsOf e-1) (by omega));omega
       ·intro i j hi hj
        obtain⟨v,hv,hr⟩:=hcell i j (by omega) hj;simp only[hv,Option.getD_some];exact hr
   case struct fs=>
    simp only[Bool.and_eq_true]at hp;obtain⟨xs,m',rfl,rfl,hcl,hxl,hxs⟩:=DataW.trod_struct hu hx;simp only[DataW.weights,hu]at hw;obtain⟨avs,h1,h2,h3,h4⟩:=Vg (n:=n) (m:=m') (cs:=cs) (fun t cs x=>ih m' t cs x) fs.toList 0 xs (by rw[hcl];exact hp.1) hp.2 (by simpa using hxl) (fun i f hf=>hxs i f (by simpa using hf)) hw;exact⟨avs,h1,by simpa using h2,h3,by omega⟩
   case array k e=>
    simp only[Bool.and_eq_true,beq_iff_eq]at hp;obtain⟨xs,m',rfl,rfl,hcl,hxl,hxs⟩:=DataW.trod_array hu hx;simp only[DataW.weights,hu]at hw;obtain⟨avs,h1,h2,h3,h4⟩:=Ui (n:=n) (m:=m') (e:=e) (cs:=cs) (fun cs x=>ih m' e cs x hp.2) k 0 xs (by rw[hcl,hp.1];simp) hxl (fun i hi=>by simpa using hxs i hi) hw;exact⟨avs,h1,by simpa using h2,h3,by omega⟩
theorem Alc{n:Nat}{t:TypeId}{v:Value}{d:DataW H}{ps:List MemPlace}{base:Nat}(hp:plain P n t=true)(hval:Value.okWide P w .any base t v)(h:DataW.Trod enc P w 0 (fun _=>true) true t v d ps)(hw:∀q∈d.weights P t,q≤reachBytes):
  ∃a,TyA P n t a∧RV (Np w) w a v:=by
 obtain⟨m,hm⟩:=h;obtain⟨avs,h1,h2,h3,h4⟩:=Ac5 n m t _ _ hp hm hw;have agg:∀cs:Array Value,v= .agg cs→RV (Np w) w (.agg avs) v:=by
  rintro cs rfl;exact .agg avs cs (by simpa[Value.cells]using h2.1) (fun j hj=>by simpa[Value.cells]using h2.2 j hj)
 have one:∀x,v.cells.toList=[x]→v=x→∃a,avs=[a]∧RV (Np w) w a v:=by
  rintro x hx rfl;rw[hx]at h2;obtain⟨a,rfl⟩:∃a,avs=[a]:=List.length_eq_one_iff.1 (by have:=h2.1;simpa using this.symm);exact⟨a,rfl,h2.2 0 (by simp)⟩
 unfold TyA;cases n with
 |zero=>simp[plain]at hp
 |succ n=>
  have hp0:=hp;unfold plain at hp0;cases hu:P.underlying t with
  |none=>rw[hu]at hp0;cases hp0
  |some u=>
   rw[hu]at hp0;cases u<;>simp only at hp0<;>try (exact absurd hp0 (by decide))
   case struct fs=>
    unfold Value.okWide at hval;rw[hu]at hval;obtain⟨cs,hv,_⟩:=hval;exact⟨_,⟨avs,rfl,h1⟩,agg cs hv⟩
   case array k e=>
    unfold Value.okWide at hval;rw[hu]at hval;obtain⟨cs,hv,_⟩:=hval;exact⟨_,⟨avs,rfl,h1⟩,agg cs hv⟩
   case bool=>
    obtain⟨b,rfl,_⟩:=open_bool hu hval ⟨m,hm⟩;obtain⟨a,rfl,ha⟩:=one _ rfl rfl;exact⟨a,h1,ha⟩
   case int k=>
    obtain⟨b,rfl,_⟩:=open_int hu hval ⟨m,hm⟩;obtain⟨a,rfl,ha⟩:=one _ rfl rfl;exact⟨a,h1,ha⟩
   case string=>
    obtain⟨b,rfl,_⟩:=open_string hu hval ⟨m,hm⟩;obtain⟨a,rfl,ha⟩:=one _ rfl rfl;exact⟨a,h1,ha⟩
   case slice e=>
    obtain⟨a,len,cap,rfl⟩:=okWide_slice hu hval;obtain⟨a,rfl,ha⟩:=one _ rfl rfl;exact⟨a,h1,ha⟩
theorem open_args{n base:Nat}:∀(ts:List TypeId) (vs:List Value) (ds:List (DataW H)) (ps:List MemPlace),ts.all (plain P n)=true→(∀(j:Nat) t v,ts[j]? =some t→vs[j]? =some v→Value.okWide P w .any base t v)→
  DataW.TrodAll enc P w 0 (fun _=>true) true ts vs ds ps→(∀q∈DataW.weightsEach P ts ds,q≤reachBytes)→∃as,TyAs P n ts as∧RVs (Np w) w as vs
 | [],[],[],ps,_,_,_,_=>⟨[],trivial,rfl,fun j hj=>by simp at hj⟩
 |t::ts,v::vs,d::ds,ps,hp,hval,h,hw=>by
  obtain⟨p,q,h1,h2,rfl⟩:=h;simp only[List.all_cons,Bool.and_eq_true]at hp;simp only[DataW.weightsEach,List.mem_append]at hw;obtain⟨a,ha,hr⟩:=Alc hp.1 (hval 0 t v rfl rfl) h1 (fun q hq=>hw q (.inl hq));obtain⟨as,has,hrs⟩:=open_args ts vs ds q hp.2 (fun j t v ht hv=>hval (j+1) t v (by simpa using ht) (by simpa using hv)) h2 (fun q hq=>hw q (.inr hq));exact⟨a::as,⟨ha,has⟩,(RVs.one1 hr).app hrs⟩
 | [],_::_,_,_,_,_,h,_=>h.elim
 | [],[],_::_,_,_,_,h,_=>h.elim
 |_::_,[],_,_,_,_,h,_=>h.elim
 |_::_,_::_,[],_,_,_,h,_=>h.elim
theorem shut_args{W':World}(hl:laidOutB P=true)(hb:Below w.heap.size w W'):∀(ts:List TypeId) (vs:List Value) (ds:List (DataW H)) (ps:List MemPlace),(ts.all fun t=>P.readableRec t&&decide (t<P.types.size))=true→
  DataW.TrodAll enc P w 0 (fun _=>true) true ts vs ds ps→DataW.TrodAll enc P W' 0 (fun b=>decide (b<w.heap.size)) true ts vs ds ps
 | [],[],[],ps,_,h=>h
 |t::ts,v::vs,d::ds,ps,hr,h=>by
  obtain⟨p,q,h1,h2,rfl⟩:=h;simp only[List.all_cons,Bool.and_eq_true,decide_eq_true_eq]at hr;refine⟨p,q,Below.trod hl hr.1.1 hr.1.2 h1 hb ?_,shut_args hl hb ts vs ds q hr.2 h2,rfl⟩;obtain⟨m,hm⟩:=h1;exact DataW.trod_lt m _ _ _ hm
 | [],_::_,_,_,_,h=>h.elim
 | [],[],_::_,_,_,h=>h.elim
 |_::_,[],_,_,_,h=>h.elim
 |_::_,_::_,[],_,_,h=>h.elim
theorem AT.law{f:FuncId}{as:List AV}{args:Array Value}(hb:Vp P f=false)(h:AT P f as (fun _=>none) fun r _=>r= .v (.bool true))(hr:RVs (Np w) w as args.toList):Calls P f args w fun e w'=>e= .returned (.bool true)∧Below w.heap.size w w':=by
 replace h:=h.resolve_right (fun⟨h,_⟩=>by rw[hb]at h;cases h)
 have:=h.2 (Np w) w args.toList (Ahu w) hr;rw[Array.toArray_toList]at this;refine this.mono fun e w' ⟨x,F',σ',r,h1,h2,h3,h4,h5⟩=>?_;subst h5;refine⟨by rw[h1,h4.eq],h2.os,h2.tape,h2.output,h2.size,fun b hb=>(h2.old b hb rfl).1⟩
end
theorem Afp{P:Program}{f:FuncId}{fn:Func}{t:TypeId}{ag byt:Bool}{sz q q1 eby b p m c cap:Nat}{zr ez:List Value}{es es1:List (List AV)}{σ:St}
  (hf:P.funcs[f]? =some fn) (hbody:fn.body=none) (hname:(fn.name== "runtime.NumGoroutine")=false) (hnext:Extern.findNext fn=none) (hfind:Extern.find fn=some (Extern.SlicesOverlaps.overlaps fn.params fn.resultTypes))
  (hp0:fn.params[0]? =some t) (ht:tk P t=some ⟨ag,sz,zr,.sl q eby ez byt⟩) (hb:σ b=some (.rows q es false cap)) (hq:1<q) (hq1:0<q1) (hp:p≤cap*q):
  AT P f [.fsl q1 es1,.v (.slice (some ⟨b,p,none⟩) m c)] σ fun r σ'=>r= .v (.bool false)∧σ'=σ:=by
 refine .inr ⟨by unfold Vp;rw[hf];simp[hbody],.inr ⟨⟨fn,hf,hbody⟩,fun F w vs hs hv=>?_⟩⟩;obtain⟨X,Y,rfl⟩:∃X Y,vs=[X,Y]:=by
  match vs,hv.1 with
  | [X,Y],_=>exact⟨X,Y,rfl⟩
 have hX:=hv.2 0 (by simp);have hY:=hv.2 1 (by simp);simp only[List.getD_cons_zero,List.getD_cons_succ]at hX hY;have hYe:=hY.eq;subst hYe;obtain⟨inf,d,z,h1,h2,h3,h4,h5,h6,h7,h8⟩:=Br ht;obtain⟨e,ie,ze,rfl,k1,rfl,rfl,k4,rfl,k6,k7⟩:=J7 (P:=P) (d:=d) h7.symm;have hrun:=run_callFunc_extern (P:=P) hf hname (by simp[hbody]) hnext hfind #[X,.slice (some ⟨b,p,none⟩) m c] w;obtain⟨cc,e',mm,g1,g2,g3,g4,g5,g6,g7⟩:=hs.obj b _ hb;have hps:p≤cc.size:=Nat.le_trans hp g2;have fb1:w.frozen? ⟨b,p,none⟩=false:=by
  have:=g5 p (by omega);simp only[World.frozen?,g1];simpa using this
 have fb2:w.frozen? ⟨b,cc.size,none⟩=false:=by
  have:=g5 cc.size (.inr ⟨hq,rfl⟩);simp only[World.frozen?,g1];simpa using this
 have sb:w.shape? b=some (e',cc.size):=by simp[World.shape?,g1]
 have done:∀ad la lc,X= .slice ad la lc→(Extern.SlicesOverlaps.overlaps fn.params fn.resultTypes #[X,.slice (some ⟨b,p,none⟩) m c]).run P w= .ok (.bool false) w→
   (∀x∈[X,Value.slice (some ⟨b,p,none⟩) m c],∃a n c,x= .slice a n c)∧∃x r,(callFunc f [X,Value.slice (some ⟨b,p,none⟩) m c].toArray).run P w= .ok (.value x) w∧RV F w r x∧r= .v (.bool false)∧σ=σ:=fun ad la lc hXs hr=>by
  refine⟨fun x hx=>?_,.bool false,.v (.bool false),?_,.v _,rfl,rfl⟩
  ·rcases List.mem_cons.1 hx with rfl|hx
   ·exact⟨_,_,_,hXs⟩
   ·rw[List.mem_singleton.1 hx];exact⟨_,_,_,rfl⟩
  ·rw[show([X,Value.slice (some ⟨b,p,none⟩) m c].toArray)= #[X,.slice (some ⟨b,p,none⟩) m c]from rfl,hrun,hr]
   rfl
 have goes:∀(ad:Option Addr) (la lc:Nat),(la=0∨m=0∨ie.size=0∨∃b1 o e1 c1,ad=some ⟨b1,o,none⟩∧b1≠b∧w.shape? b1=some (e1,c1)∧c1≠0)→(Extern.SlicesOverlaps.overlaps fn.params fn.resultTypes #[.slice ad la lc,.slice (some ⟨b,p,none⟩) m c]).run P w= .ok (.bool false) w:=fun ad la lc h=>by
  obtain⟨T,hT⟩:∃T,T=Extern.SlicesOverlaps.overlaps fn.params fn.resultTypes #[.slice ad la lc,.slice (some ⟨b,p,none⟩) m c]:=⟨_,rfl⟩;rw[←hT]
  conv at hT=>
   rhs
   whnf
  rw[hp0]at hT;rw[hT];by_cases hz:la=0∨m=0∨ie.size=0
  ·cases ad with
   |none=>simp[run_underlying h2,A6 k1]
   |some ad=>simp[run_underlying h2,A6 k1,hz]
  ·obtain⟨b1,o,e1,c1,rfl,hne,sa,hc0⟩:∃b1 o e1 c1,ad=some ⟨b1,o,none⟩∧b1≠b∧w.shape? b1=some (e1,c1)∧c1≠0:=by
    rcases h with h|h|h|h
    ·exact absurd (.inl h) hz
    ·exact absurd (.inr (.inl h)) hz
    ·exact absurd (.inr (.inr h)) hz
    ·exact h
   have hbn:(b1 !=b)=true:=by simp[hne]
   have hbe:(b1==b)=false:=by simp[hne]
   have hfz:∀(a:Addr) (w:World),Sem.run P (Sem.frozen a Sem.pure) w= .ok (w.frozen? a) w:=fun _ _=>rfl;have hsh:∀(r:Nat) (w:World),Sem.run P (Sem.shape r Sem.pure) w= .ok (w.shape? r) w:=fun _ _=>rfl
   cases hfa:w.frozen? ⟨b1,o,none⟩<;>cases hfa2:w.frozen? ⟨b1,c1,none⟩<;>
    simp[run_underlying h2,A6 k1,hz,hbn,hbe,frozen,hfz,hsh,hfa,hfa2,fb1,fb2,noView,viewAt,shape,sa,sb,mayBeOne,stringish,hc0,hne]
 cases hX with
 |fsl0 _ ad=>
  exact done _ _ _ rfl (goes _ _ _ (.inl rfl))
 |fsl _ _ b1 o cf n hn hk hF hc hr=>
  refine done _ _ _ rfl ?_;rcases Nat.eq_zero_or_pos n with hz|hn0
  ·exact goes _ _ _ (.inl hz)
  ·have hpos:0<es1.length*q1:=Nat.mul_pos (by omega) hq1
   have h0:=hc 0 hpos;have hne:b1≠b:=fun e=>by
    subst e;have:F b1=0:=g6;omega
   obtain⟨c1,e1,m1,s1,s2⟩:∃c1 e1 m1,w.heap[b1]? =some (.cells c1 e1 m1)∧0<c1.size:=by
    simp only[World.cell?]at h0;split at h0
    ·rename_i c1 e1 m1 hh
     refine⟨c1,e1,m1,hh,?_⟩;rcases Nat.eq_zero_or_pos c1.size with h|h
     ·simp[h,Array.getElem?_eq_none]at h0
     ·exact h
    ·cases h0
   exact goes _ _ _ (.inr (.inr (.inr ⟨b1,o,e1,c1.size,rfl,hne,by simp[World.shape?,s1],by omega⟩)))
def EAt(q:Nat)(σ:St)(p:AV)(cs:List AV)(g:Nat):Prop:=
 p= .fp (cs.drop g)∨∃b j es frz cap,p= .rp b q j g∧σ b=some (.rows q es frz cap)∧j<es.length∧es.getD j []=cs
section
variable{q:Nat}{σ σ':St}{p lv:AV}{es:List (List AV)}{cs:List AV}{g:Nat}{K:AV→Prop}
theorem LAt.elem{ag:Bool}{sz eby:Nat}{zr ez:List Value}{byt:Bool}{ik:IntKind}{j:Int}(h:LAt q σ lv es)(h0:0≤j)(h1:j<es.length)
  (hk:∀p,EAt q σ p (es.getD j.toNat []) 0→K p):Fs (some ⟨ag,sz,zr,.sl q eby ez byt⟩) σ lv (.v (.int ik j)) K:=by
 rcases h with⟨rfl,rfl⟩|rfl|⟨b,cap,rfl,hc,hb⟩
 ·simp at h1;omega
 ·exact⟨rfl,h0,h1,hk _ (.inl (by simp))⟩
 ·refine⟨by simp,h0,h1,hk _ (.inr ⟨b,_,es,false,cap,rfl,hb,?_,?_⟩)⟩
  ·simp only[Nat.zero_div,Nat.zero_add];omega
  ·simp only[Nat.zero_div,Nat.zero_add]
theorem EAt.fld{bb:Bool}{o s:Nat}(h:EAt q σ p cs g)(hs:0<s)(ho:g+o≤cs.length)(hk:∀p',EAt q σ p' cs (g+o)→K p'):aFad (some (o,s,bb)) p K:=by
 simp only[aFad];rcases h with rfl|⟨b,j,es,frz,cap,rfl,h1,h2,h3⟩
 ·exact⟨hs,by simp;omega,hk _ (.inl (by rw[List.drop_drop]))⟩
 ·exact⟨hs,hk _ (.inr ⟨b,j,es,frz,cap,rfl,h1,h2,h3⟩)⟩
theorem EAt.load{sz:Nat}{zr:List Value}{td:TD}(h:EAt q σ p cs g)(hq:g+sz≤q)(hl:q≤cs.length)(hk:K (.agg ((cs.drop g).take sz))):Da (some ⟨true,sz,zr,td⟩) σ p K:=by
 rcases h with rfl|⟨b,j,es,frz,cap,rfl,h1,h2,rfl⟩
 ·simp only[Da,if_true]
  exact⟨by simp;omega,hk⟩
 ·simp only[Da,h1,if_true]
  exact⟨trivial,h2,hq,hk⟩
theorem EAt.load1{sz:Nat}{zr:List Value}{td:TD}(h:EAt q σ p cs g)(hq:g<q)(hl:q≤cs.length)(hk:K (cs.getD g (.v undef))):Da (some ⟨false,sz,zr,td⟩) σ p K:=by
 rcases h with rfl|⟨b,j,es,frz,cap,rfl,h1,h2,rfl⟩
 ·simp only[Da,Bool.false_eq_true,if_false]
  refine⟨by simp;omega,?_⟩;simpa[List.getD_eq_getElem?_getD]using hk
 ·simp only[Da,h1,Bool.false_eq_true,if_false]
  exact⟨trivial,h2,hq,hk⟩
theorem EAt.keep(h:EAt q σ p cs g)(hs:∀x o,σ x=some o→σ' x=some o):EAt q σ' p cs g:=by
 rcases h with rfl|⟨b,j,es,frz,cap,rfl,h1,h2,h3⟩
 ·exact .inl rfl
 ·exact .inr ⟨b,j,es,frz,cap,rfl,hs _ _ h1,h2,h3⟩
noncomputable def St.free(σ:St)(lv:AV):St:=fun y=>open Classical in if Own lv y then none else σ y
theorem Oo{x:Nat}(h:Own lv x):St.free σ lv x=none:=by unfold St.free;rw[if_pos h]
theorem I8{x:Nat}(h:¬Own lv x):St.free σ lv x=σ x:=by unfold St.free;rw[if_neg h]
theorem Agb:SV σ (St.free σ lv):=Es fun x o hx=>.inl (by
 by_cases h:Own lv x
 ·rw[Oo h]at hx;cases hx
 ·rwa[I8 h]at hx)
theorem LAt.vw_free(h:LAt q σ lv es):VW σ (St.free σ lv) lv (.sl q es):=h.vw_same fun x hx=>Oo hx
end
inductive Tr(α:Type) where
 |e
 |l (a:α)
 |n (x y:Tr α)
def Tr.get{α:Type}:Nat→Tr α→Nat→Option α
 |0,t,_=>match t with
  | .l a=>some a
  |_=>none
 |d+1,t,i=>match t with
  | .n x y=>match Nat.beq (i % 2) 0 with
   |true=>x.get d (i/2)
   |false=>y.get d (i/2)
  |_=>none
def Tr.kids{α:Type}:Tr α→Tr α×Tr α
 | .n x y=>(x,y)
 |_=>(.e,.e)
def Tr.set{α:Type}:Nat→Tr α→Nat→α→Tr α
 |0,_,_,a=>.l a
 |d+1,t,i,a=>match t.kids with
  |(x,y)=>match Nat.beq (i % 2) 0 with
   |true=>.n (x.set d (i/2) a) y
   |false=>.n x (y.set d (i/2) a)
theorem Tr.get_kids{α:Type}{d:Nat}{t:Tr α}{i:Nat}:t.get (d+1) i=match Nat.beq (i % 2) 0 with|true=>t.kids.1.get d (i/2)|false=>t.kids.2.get d (i/2):=by
 have he:∀d i,(Tr.e:Tr α).get d i=none:=fun d i=>by cases d<;>rfl
 cases t with
 |n x y=>simp only[Tr.get,Tr.kids]
 |_=>simp only[Tr.get,Tr.kids,he];split<;>rfl
theorem Tr.get_set{α:Type}:∀(d:Nat) (t:Tr α) (i j:Nat) (a:α),i<2^d→j<2^d→(t.set d i a).get d j=if j=i then some a else t.get d j
 |0,t,i,j,a,hi,hj=>by
  have:j=i:=by simp at hi hj;omega
  rw[if_pos this];rfl
 |d+1,t,i,j,a,hi,hj=>by
  have hi2:i/2<2^d:=by rw[Nat.pow_succ]at hi;omega
  have hj2:j/2<2^d:=by rw[Nat.pow_succ]at hj;omega
  have e:∀x:Nat,Nat.beq (x % 2) 0=decide (x % 2=0):=fun x=>by
   cases h:Nat.beq (x % 2) 0 with
   |true=>exact(decide_eq_true (Nat.eq_of_beq_eq_true h)).symm
   |false=>exact(decide_eq_false (Nat.ne_of_beq_eq_false h)).symm
  rw[Tr.get_kids (t:=t)];simp only[Tr.set];generalize hk:t.kids=p;obtain⟨x,y⟩:=p;simp only[e];by_cases h1:i % 2=0<;>by_cases h2:j % 2=0
  ·rw[decide_eq_true h1,decide_eq_true h2]
   simp only[Tr.get,e,decide_eq_true h2];rw[Tr.get_set d x _ _ a hi2 hj2];have:(j/2=i/2)↔j=i:=by omega
   simp only[this]
  ·rw[decide_eq_true h1,decide_eq_false h2]
   simp only[Tr.get,e,decide_eq_false h2];rw[if_neg (by omega)]
  ·rw[decide_eq_false h1,decide_eq_true h2]
   simp only[Tr.get,e,decide_eq_true h2];rw[if_neg (by omega)]
  ·rw[decide_eq_false h1,decide_eq_false h2]
   simp only[Tr.get,e,decide_eq_false h2];rw[Tr.get_set d y _ _ a hi2 hj2];have:(j/2=i/2)↔j=i:=by omega
   simp only[this]
def Tr.All{α:Type}:Nat→Tr α→(Nat→α→Prop)→Prop
 |0,t,p=>match t with
  | .l a=>p 0 a
  |_=>True
 |d+1,t,p=>match t with
  | .n x y=>x.All d (fun i a=>p (2*i) a)∧y.All d (fun i a=>p (2*i+1) a)
  |_=>True
theorem Tr.all_get{α:Type}:∀{d:Nat} {t:Tr α} {p:Nat→α→Prop} {i:Nat} {a:α},t.All d p→i<2^d→t.get d i=some a→p i a
 |0,t,p,i,a,h,hi,hg=>by
  have:i=0:=by simpa using hi
  subst this;cases t with
  |l b=>simp only[Tr.get,Option.some.injEq]at hg;subst hg;exact h
  |_=>cases hg
 |d+1,t,p,i,a,h,hi,hg=>by
  have hi2:i/2<2^d:=by rw[Nat.pow_succ]at hi;omega
  cases t with
  |n x y=>
   simp only[Tr.get]at hg;split at hg
   ·rename_i hb
    have hb:=Nat.eq_of_beq_eq_true hb;have:=Tr.all_get h.1 hi2 hg;rwa[show 2*(i/2)=i by omega]at this
   ·rename_i hb
    have hb:=Nat.ne_of_beq_eq_false hb;have:=Tr.all_get h.2 hi2 hg;rwa[show 2*(i/2)+1=i by omega]at this
  |_=>cases hg
inductive RS where
 |v (x:Value)
 |opq (i:Nat)
 |ptr (i o:Nat)
 |rp (i k j f:Nat)
 |row (i n:Nat)
 |part (i q l n:Nat)
 |mt (i:Nat) (p c:Nat→Nat)
 |sl (k:Nat) (es:List (List RS))
 |fsl (k:Nat) (es:List (List RS))
 |fp (cs:List RS)
 |agg (cs:List RS)
 |tup (cs:List RS)
 |fn (f:Nat) (fi ca:List RS)
 |yld (l:Nat)
 |ifc (t:TypeId) (x:RS)
 |mp (i:Nat)
structure Cx where
 r:Nat→Nat
 k:Nat→Nat
 a:Nat→AV
mutual
def RS.vv(c:Cx):RS→Value
 | .v x=>x
 | .ptr i o=>.pointer (some ⟨c.r i,o,none⟩)
 | .row i n=>.slice (some ⟨c.r i,0,none⟩) n (c.k i)
 | .part i q l n=>.slice (some ⟨c.r i,l*q,none⟩) n (c.k i-l)
 | .mt i p q=>.slice (some ⟨c.r i,p (c.k i),none⟩) 0 (q (c.k i))
 | .fn f fi ca=>.func (.func f) (RS.vvs c fi).toArray (RS.vvs c ca).toArray
 | .yld l=>.func (.yield (c.r l)) #[] #[]
 | .ifc t x=>.iface t (x.vv c)
 | .mp i=>.map (some (c.r i))
 |_=>undef
def RS.vvs(c:Cx):List RS→List Value
 | []=>[]
 |x::l=>x.vv c::RS.vvs c l
end
mutual
def RS.iv(c:Cx):RS→AV
 | .opq i=>c.a i
 | .rp i k j f=>.rp (c.r i) k j f
 | .sl k es=>.sl k (RS.ivss c es)
 | .fsl k es=>.fsl k (RS.ivss c es)
 | .fp cs=>.fp (RS.ivs c cs)
 | .agg cs=>.agg (RS.ivs c cs)
 | .tup cs=>.tup (RS.ivs c cs)
 |x=>.v (x.vv c)
def RS.ivs(c:Cx):List RS→List AV
 | []=>[]
 |x::l=>x.iv c::RS.ivs c l
def RS.ivss(c:Cx):List (List RS)→List (List AV)
 | []=>[]
 |x::l=>RS.ivs c x::RS.ivss c l
end
theorem Dl(c:Cx):∀l:List RS,RS.ivs c l=l.map (RS.iv c)
 | []=>rfl
 |x::l=>by simp only[RS.ivs,Dl c l,List.map_cons]
theorem Cq(c:Cx):∀l:List (List RS),RS.ivss c l=l.map (RS.ivs c)
 | []=>rfl
 |x::l=>by simp only[RS.ivss,Cq c l,List.map_cons]
theorem Yo(c:Cx):∀l:List RS,RS.vvs c l=l.map (RS.vv c)
 | []=>rfl
 |x::l=>by simp only[RS.vvs,Yo c l,List.map_cons]
def RS.isV:RS→Bool
 | .opq _| .rp .. | .sl .. | .fsl .. | .fp _| .agg _| .tup _=>false
 |_=>true
theorem Ij{c:Cx}{x:RS}(h:x.isV=true):x.iv c= .v (x.vv c):=by cases x<;>first|(cases h;done)|simp only[RS.iv]
mutual
def RS.wf(n:Nat):RS→Prop
 | .v _=>True
 | .opq _=>True
 | .ptr i _=>i<n
 | .rp i _ _ _=>i<n
 | .row i _=>i<n
 | .part i _ _ _=>i<n
 | .mt i _ _=>i<n
 | .sl _ es=>RS.wfss n es
 | .fsl _ es=>RS.wfss n es
 | .fp cs=>RS.wfs n cs
 | .agg cs=>RS.wfs n cs
 | .tup cs=>RS.wfs n cs
 | .fn _ fi ca=>RS.wfs n fi∧RS.wfs n ca
 | .yld l=>l<n
 | .ifc _ x=>x.wf n
 | .mp i=>i<n
def RS.wfs(n:Nat):List RS→Prop
 | []=>True
 |x::l=>x.wf n∧RS.wfs n l
def RS.wfss(n:Nat):List (List RS)→Prop
 | []=>True
 |x::l=>RS.wfs n x∧RS.wfss n l
end
theorem He{n:Nat}:∀{l:List RS},RS.wfs n l↔∀x∈l,x.wf n
 | []=>by simp[RS.wfs]
 |x::l=>by simp[RS.wfs,He (l:=l)]
theorem Dh{n:Nat}:∀{l:List (List RS)},RS.wfss n l↔∀x∈l,RS.wfs n x
 | []=>by simp[RS.wfss]
 |x::l=>by simp[RS.wfss,Dh (l:=l)]
structure Fp(n:Nat)(c c':Cx):Prop where
 r:∀i,i<n→c'.r i=c.r i
 k:∀i,i<n→c'.k i=c.k i
 a:c'.a=c.a
theorem Fp.refl(n:Nat)(c:Cx):Fp n c c:=⟨fun _ _=>rfl,fun _ _=>rfl,rfl⟩
theorem Fp.trans{n m:Nat}{c c' c'':Cx}(h:Fp n c c')(h':Fp m c' c'')(hn:n≤m):Fp n c c'':=
 ⟨fun i hi=>(h'.r i (by omega)).trans (h.r i hi),fun i hi=>(h'.k i (by omega)).trans (h.k i hi),h'.a.trans h.a⟩
section
variable{n:Nat}{c c':Cx}
mutual
theorem Ej(h:Fp n c c'):∀(x:RS),x.wf n→x.vv c'=x.vv c
 | .v _,_=>by simp only[RS.vv]
 | .opq _,_=>by simp only[RS.vv]
 | .ptr i _,hw=>by simp only[RS.wf]at hw;simp only[RS.vv,h.r i hw]
 | .rp i _ _ _,_=>by simp only[RS.vv]
 | .row i _,hw=>by simp only[RS.wf]at hw;simp only[RS.vv,h.r i hw,h.k i hw]
 | .part i _ _ _,hw=>by simp only[RS.wf]at hw;simp only[RS.vv,h.r i hw,h.k i hw]
 | .mt i _ _,hw=>by simp only[RS.wf]at hw;simp only[RS.vv,h.r i hw,h.k i hw]
 | .sl _ _,_=>by simp only[RS.vv]
 | .fsl _ _,_=>by simp only[RS.vv]
 | .fp _,_=>by simp only[RS.vv]
 | .agg _,_=>by simp only[RS.vv]
 | .tup _,_=>by simp only[RS.vv]
 | .fn _ fi ca,hw=>by simp only[RS.wf]at hw;simp only[RS.vv,Rb h fi hw.1,Rb h ca hw.2]
 | .yld l,hw=>by simp only[RS.wf]at hw;simp only[RS.vv,h.r l hw]
 | .ifc _ x,hw=>by simp only[RS.wf]at hw;simp only[RS.vv,Ej h x hw]
 | .mp i,hw=>by simp only[RS.wf]at hw;simp only[RS.vv,h.r i hw]
theorem Rb(h:Fp n c c'):∀(l:List RS),RS.wfs n l→RS.vvs c' l=RS.vvs c l
 | [],_=>by simp only[RS.vvs]
 |x::l,hw=>by simp only[RS.wfs]at hw;simp only[RS.vvs,Ej h x hw.1,Rb h l hw.2]
end
mutual
theorem Lm(h:Fp n c c'):∀(x:RS),x.wf n→x.iv c'=x.iv c
 | .opq _,_=>by simp only[RS.iv,h.a]
 | .rp i _ _ _,hw=>by simp only[RS.wf]at hw;simp only[RS.iv,h.r i hw]
 | .sl _ es,hw=>by simp only[RS.wf]at hw;simp only[RS.iv,Ik h es hw]
 | .fsl _ es,hw=>by simp only[RS.wf]at hw;simp only[RS.iv,Ik h es hw]
 | .fp cs,hw=>by simp only[RS.wf]at hw;simp only[RS.iv,Fv h cs hw]
 | .agg cs,hw=>by simp only[RS.wf]at hw;simp only[RS.iv,Fv h cs hw]
 | .tup cs,hw=>by simp only[RS.wf]at hw;simp only[RS.iv,Fv h cs hw]
 | .v x,hw=>by rw[Ij rfl,Ij rfl,Ej h _ hw]
 | .ptr i o,hw=>by rw[Ij rfl,Ij rfl,Ej h _ hw]
 | .row i o,hw=>by rw[Ij rfl,Ij rfl,Ej h _ hw]
 | .part i o _ _,hw=>by rw[Ij rfl,Ij rfl,Ej h _ hw]
 | .mt i o _,hw=>by rw[Ij rfl,Ij rfl,Ej h _ hw]
 | .fn i o _,hw=>by rw[Ij rfl,Ij rfl,Ej h _ hw]
 | .yld i,hw=>by rw[Ij rfl,Ij rfl,Ej h _ hw]
 | .ifc i o,hw=>by rw[Ij rfl,Ij rfl,Ej h _ hw]
 | .mp i,hw=>by rw[Ij rfl,Ij rfl,Ej h _ hw]
theorem Fv(h:Fp n c c'):∀(l:List RS),RS.wfs n l→RS.ivs c' l=RS.ivs c l
 | [],_=>by simp only[RS.ivs]
 |x::l,hw=>by simp only[RS.wfs]at hw;simp only[RS.ivs,Lm h x hw.1,Fv h l hw.2]
theorem Ik(h:Fp n c c'):∀(l:List (List RS)),RS.wfss n l→RS.ivss c' l=RS.ivss c l
 | [],_=>by simp only[RS.ivss]
 |x::l,hw=>by simp only[RS.wfss]at hw;simp only[RS.ivss,Fv h x hw.1,Ik h l hw.2]
end
end
mutual
theorem Jc{n m:Nat}(h:n≤m):∀(x:RS),x.wf n→x.wf m
 | .v _,_=>by simp only[RS.wf]
 | .opq _,_=>by simp only[RS.wf]
 | .ptr i _,hw=>by simp only[RS.wf]at hw⊢;omega
 | .rp i _ _ _,hw=>by simp only[RS.wf]at hw⊢;omega
 | .row i _,hw=>by simp only[RS.wf]at hw⊢;omega
 | .part i _ _ _,hw=>by simp only[RS.wf]at hw⊢;omega
 | .mt i _ _,hw=>by simp only[RS.wf]at hw⊢;omega
 | .sl _ es,hw=>by simp only[RS.wf]at hw⊢;exact Mx h es hw
 | .fsl _ es,hw=>by simp only[RS.wf]at hw⊢;exact Mx h es hw
 | .fp cs,hw=>by simp only[RS.wf]at hw⊢;exact Fc h cs hw
 | .agg cs,hw=>by simp only[RS.wf]at hw⊢;exact Fc h cs hw
 | .tup cs,hw=>by simp only[RS.wf]at hw⊢;exact Fc h cs hw
 | .fn _ fi ca,hw=>by simp only[RS.wf]at hw⊢;exact⟨Fc h fi hw.1,Fc h ca hw.2⟩
 | .yld l,hw=>by simp only[RS.wf]at hw⊢;omega
 | .ifc _ x,hw=>by simp only[RS.wf]at hw⊢;exact Jc h x hw
 | .mp i,hw=>by simp only[RS.wf]at hw⊢;omega
theorem Fc{n m:Nat}(h:n≤m):∀(l:List RS),RS.wfs n l→RS.wfs m l
 | [],_=>by simp only[RS.wfs]
 |x::l,hw=>by simp only[RS.wfs]at hw⊢;exact⟨Jc h x hw.1,Fc h l hw.2⟩
theorem Mx{n m:Nat}(h:n≤m):∀(l:List (List RS)),RS.wfss n l→RS.wfss m l
 | [],_=>by simp only[RS.wfss]
 |x::l,hw=>by simp only[RS.wfss]at hw⊢;exact⟨Fc h x hw.1,Mx h l hw.2⟩
end
def gd{α:Type}:Bool→Option α→Option α
 |true,x=>x
 |false,_=>none
theorem Al{α:Type}{b:Bool}{x:Option α}{y:α}:gd b x=some y↔b=true∧x=some y:=by cases b<;>simp[gd]
theorem Bz{a b:Nat}:Nat.ble a b=true↔a≤b:=⟨Nat.le_of_ble_eq_true,Nat.ble_eq_true_of_le⟩
theorem A2{a b:Nat}:Nat.beq a b=true↔a=b:=⟨Nat.eq_of_beq_eq_true,fun h=>by subst h;exact Nat.beq_refl a⟩
theorem Bf{a b:Nat}:Nat.blt a b=true↔a<b:=⟨Nat.le_of_ble_eq_true,Nat.ble_eq_true_of_le⟩
abbrev Pls:=List (Nat×List PS)
inductive SO where
 |gone
 |cells (cs:List RS)
 |rows (k:Nat) (es:List (List RS)) (frz:Bool)
 |map (kv:List (Value×RS))
 |loop (fr:Tr RS) (ps:List Nat) (assign body:Code) (st:LoopState) (pend:Option Code) (pls:Pls)
structure Sto where
 n:Nat
 t:Tr SO
def Sto.get(h:Sto)(i:Nat):SO:=match h.t.get 16 i with
 |some o=>o
 |none=>.gone
def Sto.put(h:Sto)(i:Nat)(o:SO):Sto:=⟨h.n,h.t.set 16 i o⟩
def Sto.new(h:Sto)(o:SO):Option (Nat×Sto):=gd (Nat.blt h.n 65536) (some (h.n,⟨h.n+1,h.t.set 16 h.n o⟩))
def ifr(c:Cx)(fr:Tr RS):Fr:=fun t=>if t<1024 then match fr.get 10 t with
 |some v=>v.iv c
 |none=>.v undef else .v undef
def io(c:Cx)(i:Nat):SO→Option Cj
 | .gone=>none
 | .cells cs=>some (.cells (RS.ivs c cs))
 | .rows k es frz=>some (.rows k (RS.ivss c es) frz (c.k i))
 | .map kv=>some (.map (kv.map fun p=>(p.1,p.2.iv c)))
 | .loop fr ps a b st pend _=>some (.loop (ifr c fr) (c.k i) ps a b st pend)
def wfr(n:Nat)(fr:Tr RS):Prop:=∀t v,t<1024→fr.get 10 t=some v→v.wf n
def SO.wf(n:Nat):SO→Prop
 | .gone=>True
 | .cells cs=>RS.wfs n cs
 | .rows _ es _=>RS.wfss n es
 | .map kv=>∀p∈kv,p.2.wf n
 | .loop fr _ _ _ _ _ _=>wfr n fr
def SO.len:SO→Nat
 | .rows _ es _=>es.length
 |_=>0
structure WfS(h:Sto):Prop where
 lt:h.n≤65536
 ob:∀i,i<h.n→(h.get i).wf h.n
structure Mt(σ0:St)(c:Cx)(h:Sto)(σ:St):Prop where
 a:∀i,(c.a i).one=true∧(c.a i).cells=[c.a i]
 wf:WfS h
 base:∀y o,σ0 y=some o→σ y=some o
 ob:∀i o,i<h.n→io c i (h.get i)=some o→σ (c.r i)=some o
 sep:∀i y o,i<h.n→h.get i≠.gone→σ0 y=some o→y≠c.r i
 inj:∀i j,i<h.n→j<h.n→h.get i≠.gone→h.get j≠.gone→c.r i=c.r j→i=j
 cap:∀i,i<h.n→(h.get i).len≤c.k i
section
variable{σ0 σ:St}{c c':Cx}{h h':Sto}{n:Nat}
theorem Sto.get_put{h:Sto}{i j:Nat}{o:SO}(hi:i<65536)(hj:j<65536):(h.put i o).get j=if j=i then o else h.get j:=by
 unfold Sto.get Sto.put;simp only;rw[Tr.get_set 16 _ _ _ _ (by simpa using hi) (by simpa using hj)];by_cases e:j=i
 ·rw[if_pos e,if_pos e]
 ·rw[if_neg e,if_neg e]
theorem Ao1{i:Nat}{o:SO}(h:o≠.gone):∃x,io c i o=some x:=by
 cases o<;>first|exact absurd rfl h|exact⟨_,rfl⟩
theorem Em(ha:Fp n c c'){fr:Tr RS}(hw:wfr n fr):ifr c' fr=ifr c fr:=by
 funext t;unfold ifr;split
 ·rename_i ht
  split
  ·rename_i v hv;exact Lm ha v (hw t v ht hv)
  ·rfl
 ·rfl
theorem Aj9(ha:Fp n c c'){i:Nat}(hi:i<n){o:SO}(hw:o.wf n):io c' i o=io c i o:=by
 cases o with
 |gone=>rfl
 |cells cs=>simp only[io,Fv ha cs hw]
 |rows k es frz=>simp only[io,Ik ha es hw,ha.k i hi]
 |map kv=>
  simp only[io]
  congr 2
  refine List.map_congr_left fun p hp=>?_;rw[Lm ha p.2 (hw p hp)]
 |loop fr ps a b st pend pls=>simp only[io,Em ha hw,ha.k i hi]
theorem Af6{n m:Nat}(h:n≤m){o:SO}(hw:o.wf n):o.wf m:=by
 cases o with
 |gone=>trivial
 |cells cs=>exact Fc h cs hw
 |rows k es frz=>exact Mx h es hw
 |map kv=>exact fun p hp=>Jc h p.2 (hw p hp)
 |loop fr ps a b st pend pls=>exact fun t v ht hv=>Jc h v (hw t v ht hv)
theorem Gj{n m:Nat}(h:n≤m){fr:Tr RS}(hw:wfr n fr):wfr m fr:=fun t v ht hv=>Jc h v (hw t v ht hv)
theorem Mt.put(hM:Mt σ0 c h σ){i:Nat}{o:SO}{x:Cj}(hi:i<h.n)(hne:h.get i≠.gone)(ho:io c i o=some x)(hw:o.wf h.n)(hc:o.len≤c.k i):Mt σ0 c (h.put i o) (σ.set (c.r i) x):=by
 have hlt:=hM.wf.lt;have hg:∀j,j<h.n→(h.put i o).get j=if j=i then o else h.get j:=fun j hj=>Sto.get_put (by omega) (by omega)
 have hgone:o≠.gone:=by rintro rfl;cases ho
 have hal:∀j,j<h.n→(h.put i o).get j≠.gone→h.get j≠.gone:=fun j hj hh=>by
  rw[hg j hj]at hh;split at hh
  ·rename_i e;subst e;exact hne
  ·exact hh
 refine⟨hM.a,⟨hlt,fun j hj=>?_⟩,fun y o hy=>?_,fun j x' hj hx=>?_,fun j y o' hj hn hy=>hM.sep j y o' hj (hal j hj hn) hy,fun j k hj hk h1 h2 e=>hM.inj j k hj hk (hal j hj h1) (hal k hk h2) e,fun j hj=>?_⟩
 ·rw[hg j hj]
  split
  ·exact hw
  ·exact hM.wf.ob j hj
 ·have:=hM.sep i y o hi hne hy
  simp only[St.set,if_neg this];exact hM.base y o hy
 ·rw[hg j hj]at hx
  split at hx
  ·rename_i e;subst e
   rw[ho]at hx;injection hx with hx;subst hx;simp[St.set]
  ·rename_i e
   have hjg:h.get j≠.gone:=by intro e2;rw[e2]at hx;cases hx
   have:c.r j≠c.r i:=fun e2=>e (hM.inj j i hj hi hjg hne e2);simp only[St.set,if_neg this];exact hM.ob j x' hj hx
 ·rw[hg j hj]
  split
  ·rename_i e;subst e;exact hc
  ·exact hM.cap j hj
theorem Mt.del(hM:Mt σ0 c h σ){i:Nat}(hi:i<h.n)(hne:h.get i≠.gone):Mt σ0 c (h.put i .gone) (σ.del (c.r i)):=by
 have hlt:=hM.wf.lt;have hg:∀j,j<h.n→(h.put i .gone).get j=if j=i then .gone else h.get j:=fun j hj=>Sto.get_put (by omega) (by omega)
 have hal:∀j,j<h.n→(h.put i .gone).get j≠.gone→j≠i∧h.get j≠.gone:=fun j hj hh=>by
  rw[hg j hj]at hh;split at hh
  ·exact absurd rfl hh
  ·rename_i e;exact⟨e,hh⟩
 refine⟨hM.a,⟨hlt,fun j hj=>?_⟩,fun y o hy=>?_,fun j x' hj hx=>?_,fun j y o' hj hn hy=>hM.sep j y o' hj (hal j hj hn).2 hy,fun j k hj hk h1 h2 e=>hM.inj j k hj hk (hal j hj h1).2 (hal k hk h2).2 e,fun j hj=>?_⟩
 ·rw[hg j hj]
  split
  ·trivial
  ·exact hM.wf.ob j hj
 ·have:=hM.sep i y o hi hne hy
  simp only[St.del,if_neg this];exact hM.base y o hy
 ·rw[hg j hj]at hx
  split at hx
  ·cases hx
  ·rename_i e
   have hjg:h.get j≠.gone:=by intro e2;rw[e2]at hx;cases hx
   have:c.r j≠c.r i:=fun e2=>e (hM.inj j i hj hi hjg hne e2);simp only[St.del,if_neg this];exact hM.ob j x' hj hx
 ·rw[hg j hj]
  split
  ·exact Nat.zero_le _
  ·exact hM.cap j hj
def Cx.more(c:Cx)(n b k:Nat):Cx:=⟨fun i=>if i=n then b else c.r i,fun i=>if i=n then k else c.k i,c.a⟩
theorem Io(c:Cx)(n b k:Nat):Fp n c (c.more n b k):=
 ⟨fun i hi=>by simp only[Cx.more];rw[if_neg (by omega)],fun i hi=>by simp only[Cx.more];rw[if_neg (by omega)],rfl⟩
theorem Mt.new(hM:Mt σ0 c h σ){o:SO}{x:Cj}{b k i:Nat}(hb:σ b=none)(hn:h.new o=some (i,h'))(hx:io (c.more h.n b k) h.n o=some x)(hw:o.wf h.n)(hc:o.len≤k):
  i=h.n∧h'.n=h.n+1∧Mt σ0 (c.more h.n b k) h' (σ.set b x):=by
 unfold Sto.new at hn;rw[Al,Bf]at hn;obtain⟨hlt,hn⟩:=hn;injection hn with hn;injection hn with h1 h2;subst h1;subst h2;have hag:=Io c h.n b k;have hr:(c.more h.n b k).r h.n=b:=by simp[Cx.more]
 have hk:(c.more h.n b k).k h.n=k:=by simp[Cx.more]
 have hg:∀j,j<h.n+1→(Sto.mk (h.n+1) (h.t.set 16 h.n o)).get j=if j=h.n then o else h.get j:=fun j hj=>by
  have:=Sto.get_put (h:=h) (o:=o) hlt (show j<65536 by omega);exact this
 have hwo:o.wf (h.n+1):=Af6 (by omega) hw;have hfresh:∀j,j<h.n→h.get j≠.gone→c.r j≠b:=fun j hj hne e=>by
  obtain⟨y,hy⟩:=Ao1 (c:=c) (i:=j) hne;have:=hM.ob j y hj hy;rw[e,hb]at this;cases this
 refine⟨rfl,rfl,⟨hM.a,⟨by show h.n+1≤65536;omega,fun j hj=>?_⟩,fun y o' hy=>?_,fun j x' hj hx'=>?_,fun j y o' hj hne hy=>?_,fun j l hj hl h1 h2 e=>?_,fun j hj=>?_⟩⟩
 ·have hj':j<h.n+1:=hj
  rw[hg j hj'];split
  ·exact hwo
  ·exact Af6 (show h.n≤h.n+1 by omega) (hM.wf.ob j (by omega))
 ·have h1:=hM.base y o' hy
  have:y≠b:=fun e=>by subst e;rw[hb]at h1;cases h1
  simp only[St.set,if_neg this];exact h1
 ·have hj':j<h.n+1:=hj
  rw[hg j hj']at hx';split at hx'
  ·rename_i e;subst e
   rw[hx]at hx';injection hx' with hx';subst hx';rw[hr];simp[St.set]
  ·rename_i e
   have hjn:j<h.n:=by omega
   rw[Aj9 hag hjn (hM.wf.ob j hjn)]at hx';have hne:h.get j≠.gone:=by intro e2;rw[e2]at hx';cases hx'
   rw[hag.r j hjn];simp only[St.set,if_neg (hfresh j hjn hne)];exact hM.ob j x' hjn hx'
 ·have hj':j<h.n+1:=hj
  rw[hg j hj']at hne;split at hne
  ·rename_i e;subst e
   rw[hr];have h1:=hM.base y o' hy;intro e;subst e;rw[hb]at h1;cases h1
  ·have hjn:j<h.n:=by omega
   rw[hag.r j hjn];exact hM.sep j y o' hjn hne hy
 ·have hj':j<h.n+1:=hj
  have hl':l<h.n+1:=hl;rw[hg j hj']at h1;rw[hg l hl']at h2;by_cases ej:j=h.n<;>by_cases el:l=h.n
  ·omega
  ·rw[if_neg el]at h2
   rw[ej,hr,hag.r l (by omega)]at e;exact absurd e.symm (hfresh l (by omega) h2)
  ·rw[if_neg ej]at h1
   rw[el,hr,hag.r j (by omega)]at e;exact absurd e (hfresh j (by omega) h1)
  ·rw[if_neg ej]at h1
   rw[if_neg el]at h2;rw[hag.r j (by omega),hag.r l (by omega)]at e;exact hM.inj j l (by omega) (by omega) h1 h2 e
 ·have hj':j<h.n+1:=hj
  rw[hg j hj'];split
  ·rename_i e;subst e;rw[hk];exact hc
  ·rename_i e
   rw[hag.k j (by omega)];exact hM.cap j (by omega)
structure Ky(h h':Sto):Prop where
 lp:∀i fr ps a b st pend pls,i<h.n→h.get i= .loop fr ps a b st pend pls→h'.get i= .gone∨∃st' pend',h'.get i= .loop fr ps a b st' pend' pls
 gn:∀i,i<h.n→h.get i= .gone→h'.get i= .gone
theorem Ky.refl(h:Sto):Ky h h:=⟨fun _ _ _ _ _ st pend _ _ he=>.inr ⟨st,pend,he⟩,fun _ _ he=>he⟩
theorem Ky.trans{h1 h2 h3:Sto}(h:Ky h1 h2)(h':Ky h2 h3)(hn:h1.n≤h2.n):Ky h1 h3:=by
 refine⟨fun i fr ps a b st pend pls hi he=>?_,fun i hi he=>h'.gn i (by omega) (h.gn i hi he)⟩;rcases h.lp i fr ps a b st pend pls hi he with h1|⟨st',pend',h1⟩
 ·exact .inl (h'.gn i (by omega) h1)
 ·exact h'.lp i fr ps a b st' pend' pls (by omega) h1
theorem Ky.put{h:Sto}{i:Nat}{o:SO}(hlt:h.n≤65536)(hi:i<h.n)(hl:∀fr ps a b st pend pls,h.get i= .loop fr ps a b st pend pls→o= .gone∨∃st' pend',o= .loop fr ps a b st' pend' pls)(hg:h.get i= .gone→o= .gone):Ky h (h.put i o):=by
 have hgp:∀j,j<h.n→(h.put i o).get j=if j=i then o else h.get j:=fun j hj=>Sto.get_put (by omega) (by omega)
 refine⟨fun j fr ps a b st pend pls hj he=>?_,fun j hj he=>?_⟩
 ·rw[hgp j hj]
  split
  ·rename_i e;subst e;exact hl _ _ _ _ _ _ _ he
  ·exact .inr ⟨st,pend,he⟩
 ·rw[hgp j hj]
  split
  ·rename_i e;subst e;exact hg he
  ·exact he
theorem Ky.new{h h':Sto}{o:SO}{i:Nat}(hn:h.new o=some (i,h')):Ky h h':=by
 unfold Sto.new at hn;rw[Al,Bf]at hn;obtain⟨hlt,hn⟩:=hn;injection hn with hn;injection hn with h1 h2;subst h1;subst h2;have hg:∀j,j<h.n→(Sto.mk (h.n+1) (h.t.set 16 h.n o)).get j=h.get j:=fun j hj=>by
  have:=Sto.get_put (h:=h) (o:=o) hlt (show j<65536 by omega);rw[if_neg (by omega)]at this;exact this
 exact⟨fun j fr ps a b st pend pls hj he=>.inr ⟨st,pend,by rw[hg j hj];exact he⟩,fun j hj he=>by rw[hg j hj];exact he⟩
end
def T7:Value→RS
 | .agg cs=>.agg (cs.toList.map .v)
 | .tuple cs=>.tup (cs.toList.map .v)
 |x=>.v x
def eEv(fr:Tr RS):Operand→Option RS
 | .tmp t=>gd (Nat.blt t 1024) (fr.get 10 t)
 | .const v=>some (T7 v)
 | .func f=>some (.fn f [] [])
 | .global _=>none
def Ta(fr:Tr RS):List Operand→Option (List RS)
 | []=>some []
 |x::l=>match eEv fr x with
  |some v=>match Ta fr l with
   |some vs=>some (v::vs)
   |none=>none
  |none=>none
def RS.cells:RS→List RS
 | .agg cs=>cs
 | .v (.agg q)=>q.toList.map .v
 |x=>[x]
def RS.one:RS→Bool
 | .v x=>x.oneCell'
 | .agg _=>false
 | .tup _=>false
 |_=>true
section
variable{P:Program}{σ0 σ:St}{c c':Cx}{h h':Sto}{n:Nat}{fr:Tr RS}{v:RS}{K:AV→Prop}{k:AV→St→Prop}
theorem Tt(c:Cx)(l:List Value):RS.ivs c (l.map .v)=l.map AV.v:=by
 rw[Dl,List.map_map];refine List.map_congr_left fun x _=>?_;simp only[Function.comp,RS.iv,RS.vv]
theorem Uv(n:Nat)(l:List Value):RS.wfs n (l.map .v):=He.2 fun x hx=>by
 obtain⟨y,_,rfl⟩:=List.mem_map.1 hx;simp only[RS.wf]
theorem Ahr(c:Cx)(x:Value):(T7 x).iv c=ofConst x:=by
 cases x<;>simp only[T7,ofConst,RS.iv,RS.vv,Tt]
theorem Ahs(n:Nat)(x:Value):(T7 x).wf n:=by
 cases x<;>simp only[T7,RS.wf,Uv]
theorem Bj{x:Operand}(he:eEv fr x=some v):(ifr c fr).ev x=v.iv c:=by
 cases x with
 |tmp t=>
  simp only[eEv,Al,Bf]at he;simp only[Fr.ev,ifr,if_pos he.1,he.2]
 |const y=>simp only[eEv,Option.some.injEq]at he;subst he;rw[Ahr];rfl
 |global g=>cases he
 |func f=>simp only[eEv,Option.some.injEq]at he;subst he;simp only[Fr.ev,RS.iv,RS.vv,RS.vvs]
theorem Ck{x:Operand}(hf:wfr n fr)(he:eEv fr x=some v):v.wf n:=by
 cases x with
 |tmp t=>
  simp only[eEv,Al,Bf]at he;exact hf t v he.1 he.2
 |const y=>simp only[eEv,Option.some.injEq]at he;subst he;exact Ahs n y
 |global g=>cases he
 |func f=>simp only[eEv,Option.some.injEq]at he;subst he;simp only[RS.wf,RS.wfs,and_self]
theorem R1:∀{l:List Operand} {vs:List RS},Ta fr l=some vs→l.map (ifr c fr).ev=vs.map (RS.iv c)
 | [],vs,he=>by simp only[Ta,Option.some.injEq]at he;subst he;rfl
 |x::l,vs,he=>by
  simp only[Ta]at he;split at he
  ·rename_i v hv
   split at he
   ·rename_i vs' hvs
    injection he with he;subst he;simp only[List.map_cons,Bj hv,R1 hvs]
   ·cases he
  ·cases he
theorem R2(hf:wfr n fr):∀{l:List Operand} {vs:List RS},Ta fr l=some vs→RS.wfs n vs
 | [],vs,he=>by simp only[Ta,Option.some.injEq]at he;subst he;simp only[RS.wfs]
 |x::l,vs,he=>by
  simp only[Ta]at he;split at he
  ·rename_i v hv
   split at he
   ·rename_i vs' hvs
    injection he with he;subst he;simp only[RS.wfs];exact⟨Ck hf hv,R2 hf hvs⟩
   ·cases he
  ·cases he
theorem Lb(ha:∀i,(c.a i).one=true∧(c.a i).cells=[c.a i])(x:RS):(x.iv c).cells=RS.ivs c x.cells:=by
 cases x with
 |v y=>cases y<;>simp only[RS.iv,RS.vv,AV.cells,RS.cells,RS.ivs,Tt]
 |opq i=>simp only[RS.iv,RS.cells,RS.ivs,(ha i).2]
 |_=>simp only[RS.iv,RS.vv,AV.cells,RS.cells,RS.ivs]
theorem Ob{x:RS}(h:x.wf n):RS.wfs n x.cells:=by
 cases x with
 |v y=>cases y<;>simp only[RS.cells,Uv,RS.wfs,RS.wf,and_self]
 |_=>simp only[RS.cells,RS.wfs,and_true];exact h
theorem Ast(ha:∀i,(c.a i).one=true∧(c.a i).cells=[c.a i])(x:RS):(x.iv c).one=x.one:=by
 cases x with
 |opq i=>simp only[RS.iv,RS.one,(ha i).1]
 |_=>simp only[RS.iv,RS.vv,AV.one,RS.one,Value.oneCell']
theorem Xu(ha:∀i,(c.a i).one=true∧(c.a i).cells=[c.a i])(l:List RS):(RS.ivs c l).all AV.one=l.all RS.one:=by
 rw[Dl,List.all_map]
 congr 1
 funext x;exact Ast ha x
theorem Dd(c:Cx)(l:List RS):(RS.ivs c l).length=l.length:=by rw[Dl,List.length_map]
theorem Bw(c:Cx)(l:List (List RS)):(RS.ivss c l).length=l.length:=by rw[Cq,List.length_map]
theorem Ts{l:List RS}{i:Nat}{x:RS}(h:l[i]? =some x):(RS.ivs c l).getD i (.v undef)=x.iv c:=by
 rw[Dl,List.getD_eq_getElem?_getD,List.getElem?_map,h];rfl
theorem Mh{l:List (List RS)}{i:Nat}{x:List RS}(h:l[i]? =some x):(RS.ivss c l).getD i []=RS.ivs c x:=by
 rw[Cq,List.getD_eq_getElem?_getD,List.getElem?_map,h];rfl
theorem Aad(l:List RS)(i:Nat):(RS.ivs c l).take i=RS.ivs c (l.take i):=by rw[Dl,Dl,List.map_take]
theorem Oz(l:List RS)(i:Nat):(RS.ivs c l).drop i=RS.ivs c (l.drop i):=by rw[Dl,Dl,List.map_drop]
theorem H2(l:List (List RS))(i:Nat):(RS.ivss c l).take i=RS.ivss c (l.take i):=by rw[Cq,Cq,List.map_take]
theorem Mg(l:List (List RS))(i:Nat):(RS.ivss c l).drop i=RS.ivss c (l.drop i):=by rw[Cq,Cq,List.map_drop]
theorem Oy(l l':List RS):RS.ivs c (l++l')=RS.ivs c l++RS.ivs c l':=by rw[Dl,Dl,Dl,List.map_append]
theorem Ln(l l':List (List RS)):RS.ivss c (l++l')=RS.ivss c l++RS.ivss c l':=by rw[Cq,Cq,Cq,List.map_append]
theorem Aaf(l:List (List RS))(i:Nat)(x:List RS):RS.ivss c (l.set i x)=(RS.ivss c l).set i (RS.ivs c x):=by rw[Cq,Cq,List.map_set]
theorem Abq{l:List RS}(i:Nat)(h:RS.wfs n l):RS.wfs n (l.take i):=He.2 fun x hx=>He.1 h x (List.mem_of_mem_take hx)
theorem P7{l:List RS}(i:Nat)(h:RS.wfs n l):RS.wfs n (l.drop i):=He.2 fun x hx=>He.1 h x (List.mem_of_mem_drop hx)
theorem Mv{l l':List RS}(h:RS.wfs n l)(h':RS.wfs n l'):RS.wfs n (l++l'):=He.2 fun x hx=>(List.mem_append.1 hx).elim (He.1 h x) (He.1 h' x)
theorem J9{l:List (List RS)}(i:Nat)(h:RS.wfss n l):RS.wfss n (l.take i):=Dh.2 fun x hx=>Dh.1 h x (List.mem_of_mem_take hx)
theorem Mw{l:List (List RS)}(i:Nat)(h:RS.wfss n l):RS.wfss n (l.drop i):=Dh.2 fun x hx=>Dh.1 h x (List.mem_of_mem_drop hx)
theorem J8{l l':List (List RS)}(h:RS.wfss n l)(h':RS.wfss n l'):RS.wfss n (l++l'):=Dh.2 fun x hx=>(List.mem_append.1 hx).elim (Dh.1 h x) (Dh.1 h' x)
theorem Abs{l:List (List RS)}{i:Nat}{x:List RS}(h:RS.wfss n l)(hx:RS.wfs n x):RS.wfss n (l.set i x):=Dh.2 fun y hy=>by
 rcases List.mem_or_eq_of_mem_set hy with hy|rfl
 ·exact Dh.1 h y hy
 ·exact hx
theorem Sd{l:List RS}{i:Nat}{x:RS}(h:RS.wfs n l)(hx:l[i]? =some x):x.wf n:=He.1 h x (List.mem_of_getElem? hx)
theorem L8{l:List (List RS)}{i:Nat}{x:List RS}(h:RS.wfss n l)(hx:l[i]? =some x):RS.wfs n x:=Dh.1 h x (List.mem_of_getElem? hx)
theorem Nq{α:Type}{l:List α}{i:Nat}{x:α}(h:l[i]? =some x):i<l.length:=(List.getElem?_eq_some_iff.1 h).1
def Le(ag:Bool)(sz off:Nat)(cs:List RS):Option RS:=match ag with
 |true=>gd (Nat.ble (off+sz) cs.length) (some (.agg ((cs.drop off).take sz)))
 |false=>cs[off]?
theorem Js{ag:Bool}{sz off:Nat}{cs:List RS}(he:Le ag sz off cs=some v)(hk:K (v.iv c)):Kw ag off sz (RS.ivs c cs) K:=by
 unfold Kw;cases ag with
 |true=>
  simp only[Le,Al,Bz,Option.some.injEq]at he;obtain⟨h1,rfl⟩:=he;rw[if_pos rfl,Dd];refine⟨h1,?_⟩;simp only[RS.iv,←Aad,←Oz]at hk;exact hk
 |false=>
  simp only[Le]at he;rw[if_neg (by simp),Dd,Ts he];exact⟨Nq he,hk⟩
theorem Jt{ag:Bool}{sz off:Nat}{cs:List RS}(hw:RS.wfs n cs)(he:Le ag sz off cs=some v):v.wf n:=by
 cases ag with
 |true=>
  simp only[Le,Al,Bz,Option.some.injEq]at he;obtain⟨h1,rfl⟩:=he;simp only[RS.wf];exact Abq _ (P7 _ hw)
 |false=>exact Sd hw he
def Oe(i:TK)(h:Sto):RS→Option RS
 | .fp cs=>Le i.ag i.sz 0 cs
 | .ptr b o=>match h.get b with
  | .cells cs=>Le i.ag i.sz o cs
  |_=>none
 | .rp b q j f=>match h.get b with
  | .rows q' es _=>gd (Nat.beq q' q) (match es[j]? with
   |some e=>gd (match i.ag with|true=>Nat.ble (f+i.sz) q|false=>Nat.blt f q) (Le i.ag i.sz f e)
   |none=>none)
  |_=>none
 |_=>none
theorem Ai8(hM:Mt σ0 c h σ){i:TK}{p:RS}(hp:p.wf h.n)(he:Oe i h p=some v)(hk:K (v.iv c)):Da (some i) σ (p.iv c) K:=by
 cases p with
 |fp cs=>
  simp only[Oe]at he;have:=Js he hk;simp only[RS.iv,Da];unfold Kw at this;cases hg:i.ag with
  |true=>rw[hg]at this;simpa using this
  |false=>rw[hg]at this;simpa using this
 |ptr b o=>
  simp only[Oe]at he;split at he
  ·rename_i cs hb
   simp only[RS.wf]at hp;have h1:io c b (h.get b)=some (.cells (RS.ivs c cs)):=by rw[hb];rfl
   have h2:=hM.ob b _ hp h1;have:=Js he hk;simp only[RS.iv,RS.vv,Da,h2];unfold Kw at this;exact this
  ·cases he
 |rp b q j f=>
  simp only[Oe]at he;split at he
  ·rename_i q' es frz hb
   simp only[RS.wf]at hp;rw[Al,A2]at he;obtain⟨rfl,he⟩:=he;have h1:io c b (h.get b)=some (.rows q' (RS.ivss c es) frz (c.k b)):=by rw[hb];rfl
   have h2:=hM.ob b _ hp h1;split at he
   ·rename_i e hj
    rw[Al]at he;have:=Js he.2 hk;simp only[RS.iv,Da,h2,Bw,Mh hj];refine⟨trivial,Nq hj,?_⟩;unfold Kw at this;cases hg:i.ag with
    |true=>
     rw[hg]at this he;simp only[if_true]at this⊢;exact⟨Bz.1 he.1,this.2⟩
    |false=>
     rw[hg]at this he;simp only[Bool.false_eq_true,if_false]at this⊢;exact⟨Bf.1 he.1,this.2⟩
   ·cases he
  ·cases he
 |_=>cases he
theorem Ai9(hS:WfS h){i:TK}{p:RS}(hp:p.wf h.n)(he:Oe i h p=some v):v.wf h.n:=by
 cases p with
 |fp cs=>simp only[Oe]at he;simp only[RS.wf]at hp;exact Jt hp he
 |ptr b o=>
  simp only[Oe]at he;simp only[RS.wf]at hp;have:=hS.ob b hp;split at he
  ·rename_i cs hb
   rw[hb]at this;exact Jt this he
  ·cases he
 |rp b q j f=>
  simp only[Oe]at he;simp only[RS.wf]at hp;have:=hS.ob b hp;split at he
  ·rename_i q' es frz hb
   rw[hb]at this;rw[Al]at he;have he:=he.2;split at he
   ·rename_i e hj
    rw[Al]at he;exact Jt (L8 this hj) he.2
   ·cases he
  ·cases he
 |_=>cases he
def Mq(cs:List RS)(o:Nat)(xs:List RS):List RS:=cs.take o++xs++cs.drop (o+xs.length)
theorem Ns(cs:List RS)(o:Nat)(xs:List RS):RS.ivs c (Mq cs o xs)=Az (RS.ivs c cs) o (RS.ivs c xs):=by
 unfold Mq Az;rw[Oy,Oy,Aad,Oz,Dd]
theorem Nz{cs xs:List RS}(o:Nat)(h:RS.wfs n cs)(h':RS.wfs n xs):RS.wfs n (Mq cs o xs):=Mv (Mv (Abq _ h) h') (P7 _ h)
def Aca(i:TK)(h:Sto)(p x:RS):Option Sto:=gd (Nat.beq x.cells.length i.sz&&x.cells.all RS.one) (match p with
 | .ptr b o=>match h.get b with
  | .cells cs=>gd (Nat.ble (o+i.sz) cs.length) (some (h.put b (.cells (Mq cs o x.cells))))
  |_=>none
 | .rp b q j f=>match h.get b with
  | .rows q' es false=>gd (Nat.beq q' q&&Nat.ble (f+i.sz) q) (match es[j]? with
   |some e=>some (h.put b (.rows q (es.set j (Mq e f x.cells)) false))
   |none=>none)
  |_=>none
 |_=>none)
theorem Ag1(hM:Mt σ0 c h σ){i:TK}{p x:RS}(hp:p.wf h.n)(hx:x.wf h.n)(he:Aca i h p x=some h'){k:St→Prop}(hk:∀σ',h'.n=h.n→Ky h h'→Mt σ0 c h' σ'→k σ'):Gq (some i) σ (p.iv c) (x.iv c) k:=by
 unfold Aca at he;rw[Al,Bool.and_eq_true,A2]at he;obtain⟨⟨h1,h2⟩,he⟩:=he;simp only[Gq,Lb hM.a,Dd,Xu hM.a];refine⟨h1,h2,?_⟩;have hxw:=Ob hx;cases p with
 |ptr b o=>
  simp only at he;split at he
  ·rename_i cs hb
   simp only[RS.wf]at hp;rw[Al,Bz]at he;obtain⟨h3,he⟩:=he;injection he with he;subst he;have h4:io c b (h.get b)=some (.cells (RS.ivs c cs)):=by rw[hb];rfl
   have h5:=hM.ob b _ hp h4;have hw:=hM.wf.ob b hp;rw[hb]at hw;simp only[RS.iv,RS.vv,h5,Dd];refine⟨h3,hk _ rfl (.put hM.wf.lt hp (by rw[hb];intro _ _ _ _ _ _ _ e;cases e) (by rw[hb];intro e;cases e)) ?_⟩;refine hM.put hp (by rw[hb];intro e;cases e) ?_ (Nz o hw hxw) (Nat.zero_le _);simp only[io,Ns]
  ·cases he
 |rp b q j f=>
  simp only at he;split at he
  ·rename_i q' es hb
   simp only[RS.wf]at hp;rw[Al,Bool.and_eq_true,A2,Bz]at he;obtain⟨⟨rfl,h3⟩,he⟩:=he;split at he
   ·rename_i e hj
    injection he with he;subst he;have h4:io c b (h.get b)=some (.rows q' (RS.ivss c es) false (c.k b)):=by rw[hb];rfl
    have h5:=hM.ob b _ hp h4;have hw:=hM.wf.ob b hp;have hcap:=hM.cap b hp;rw[hb]at hw hcap;simp only[RS.iv,h5,Bw,Mh hj];refine⟨trivial,Nq hj,h3,hk _ rfl (.put hM.wf.lt hp (by rw[hb];intro _ _ _ _ _ _ _ e;cases e) (by rw[hb];intro e;cases e)) ?_⟩;refine hM.put hp (by rw[hb];intro e;cases e) ?_ (Abs hw (Nz f (L8 hw hj) hxw)) (by simpa[SO.len]using hcap);simp only[io,Aaf,Ns]
   ·cases he
  ·cases he
 |_=>cases he
end
section
variable{P:Program}{σ0 σ:St}{c c':Cx}{h h':Sto}{n:Nat}{fr:Tr RS}{v:RS}{K:AV→Prop}{k:AV→St→Prop}
def eNil:RS→Option RS
 | .ptr i o=>some (.ptr i o)
 | .fp cs=>some (.fp cs)
 | .rp i k j f=>some (.rp i k j f)
 | .fn f fi ca=>some (.fn f fi ca)
 | .yld l=>some (.yld l)
 |_=>none
theorem Anr{x:RS}(he:eNil x=some v)(hk:K (v.iv c)):Qb (x.iv c) K:=by
 cases x<;>first|(cases he;done)|(simp only[eNil,Option.some.injEq]at he;subst he;simpa only[RS.iv,RS.vv,Qb]using hk)
theorem Ans{x:RS}(hx:x.wf n)(he:eNil x=some v):v.wf n:=by
 cases x<;>first|(cases he;done)|(simp only[eNil,Option.some.injEq]at he;subst he;exact hx)
def Zn(i:TK)(f:Nat)(x:RS):Option RS:=match i.td with
 | .st fs=>match fs[f]? with
  |some (off,sz,_)=>gd (Nat.blt 0 sz) (match x with
   | .ptr b p=>some (.ptr b (p+off))
   | .fp cs=>gd (Nat.ble off cs.length) (some (.fp (cs.drop off)))
   | .rp b q j g=>some (.rp b q j (g+off))
   |_=>none)
  |none=>none
 |_=>none
theorem Ai2{i:TK}{f:Nat}{x:RS}(he:Zn i f x=some v)(hk:K (v.iv c)):I3 (some i) f (x.iv c) K:=by
 unfold Zn at he;simp only[I3];split at he
 ·rename_i fs htd
  simp only[htd];split at he
  ·rename_i off sz bb hf
   simp only[hf];rw[Al,Bf]at he;obtain⟨h1,he⟩:=he;refine⟨h1,?_⟩;cases x with
   |ptr b p=>simp only[Option.some.injEq]at he;subst he;simpa only[RS.iv,RS.vv]using hk
   |fp cs=>
    simp only[Al,Bz,Option.some.injEq]at he;obtain⟨h2,rfl⟩:=he;simp only[RS.iv,Dd,←Oz]at hk⊢;exact⟨h2,hk⟩
   |rp b q j g=>simp only[Option.some.injEq]at he;subst he;simpa only[RS.iv,RS.vv]using hk
   |_=>cases he
  ·cases he
 ·cases he
theorem Ai3{i:TK}{f:Nat}{x:RS}(hx:x.wf n)(he:Zn i f x=some v):v.wf n:=by
 unfold Zn at he;split at he
 ·split at he
  ·rw[Al]at he
   have he:=he.2;cases x with
   |ptr b p=>simp only[Option.some.injEq]at he;subst he;exact hx
   |fp cs=>
    simp only[Al,Option.some.injEq]at he;obtain⟨h2,rfl⟩:=he;simp only[RS.wf]at hx⊢;exact P7 _ hx
   |rp b q j g=>simp only[Option.some.injEq]at he;subst he;exact hx
   |_=>cases he
  ·cases he
 ·cases he
def eFld(i:TK)(f:Nat)(x:RS):Option RS:=match i.td with
 | .st fs=>match fs[f]? with
  |some (off,sz,ag)=>match x with
   | .agg cs=>Le ag sz off cs
   |_=>none
  |none=>none
 |_=>none
theorem Ani{i:TK}{f:Nat}{x:RS}(he:eFld i f x=some v)(hk:K (v.iv c)):N1 (some i) f (x.iv c) K:=by
 unfold eFld at he;simp only[N1];split at he
 ·rename_i fs htd
  simp only[htd];split at he
  ·rename_i off sz ag hf
   simp only[hf];cases x with
   |agg cs=>simp only[RS.iv];exact Js he hk
   |_=>cases he
  ·cases he
 ·cases he
theorem Anj{i:TK}{f:Nat}{x:RS}(hx:x.wf n)(he:eFld i f x=some v):v.wf n:=by
 unfold eFld at he;split at he
 ·split at he
  ·cases x with
   |agg cs=>simp only[RS.wf]at hx;exact Jt hx he
   |_=>cases he
  ·cases he
 ·cases he
def eNat:RS→Option Nat
 | .v (.int _ (.ofNat j))=>some j
 |_=>none
theorem Of{x:RS}{j:Nat}(he:eNat x=some j):∃ik,x= .v (.int ik (j:Int)):=by
 unfold eNat at he;split at he
 ·injection he with he;subst he;exact⟨_,rfl⟩
 ·cases he
def Zp(i:TK)(x ix:RS):Option RS:=match eNat ix with
 |none=>none
 |some j=>match i.td with
  | .arr m esz _=>gd (Nat.blt j m) (match x with
   | .ptr b p=>some (.ptr b (p+j*esz))
   | .fp cs=>gd (Nat.ble (j*esz) cs.length) (some (.fp (cs.drop (j*esz))))
   | .rp b q r f=>some (.rp b q r (f+j*esz))
   |_=>none)
  | .sl esz _ _ _=>match x with
   | .sl q es=>gd (Nat.beq q esz) (match es[j]? with|some e=>some (.fp e)|none=>none)
   | .fsl q es=>gd (Nat.beq q esz) (match es[j]? with|some e=>some (.fp e)|none=>none)
   | .row b n=>gd (Nat.blt j n&&Nat.blt 0 esz) (some (.rp b esz j 0))
   | .part b q l n=>gd (Nat.blt j n&&Nat.blt 0 esz&&Nat.beq q esz) (some (.rp b esz (l+j) 0))
   |_=>none
  |_=>none
theorem Ai6{i:TK}{x ix:RS}(he:Zp i x ix=some v)(hk:K (v.iv c)):Fs (some i) σ (x.iv c) (ix.iv c) K:=by
 unfold Zp at he;split at he
 ·cases he
 ·rename_i j hj
  obtain⟨ik,rfl⟩:=Of hj;simp only[Fs,RS.iv,RS.vv];split at he
  ·rename_i m esz eag htd
   simp only[htd];rw[Al,Bf]at he;obtain⟨h1,he⟩:=he;cases x with
   |ptr b p=>
    simp only[Option.some.injEq]at he;subst he;simp only[RS.iv,RS.vv,Int.toNat_natCast]at hk⊢;exact⟨by omega,by omega,hk⟩
   |fp cs=>
    simp only[Al,Bz,Option.some.injEq]at he;obtain⟨h2,rfl⟩:=he;simp only[RS.iv,Dd,←Oz,Int.toNat_natCast]at hk⊢;exact⟨by omega,by omega,h2,hk⟩
   |rp b q r f=>
    simp only[Option.some.injEq]at he;subst he;simp only[RS.iv,RS.vv,Int.toNat_natCast]at hk⊢;exact⟨by omega,by omega,hk⟩
   |_=>cases he
  ·rename_i esz eby ez byt htd
   simp only[htd];cases x with
   |sl q es=>
    simp only[Al,A2]at he;obtain⟨h1,he⟩:=he;split at he
    ·rename_i e hg
     injection he with he;subst he;simp only[RS.iv,Bw,Int.toNat_natCast,Mh hg]at hk⊢;exact⟨h1,by omega,by have:=Nq hg;omega,hk⟩
    ·cases he
   |fsl q es=>
    simp only[Al,A2]at he;obtain⟨h1,he⟩:=he;split at he
    ·rename_i e hg
     injection he with he;subst he;simp only[RS.iv,Bw,Int.toNat_natCast,Mh hg]at hk⊢;exact⟨h1,by omega,by have:=Nq hg;omega,hk⟩
    ·cases he
   |row b n=>
    simp only[Al,Bool.and_eq_true,Bf,Option.some.injEq]at he;obtain⟨⟨h1,h2⟩,rfl⟩:=he;simp only[RS.iv,RS.vv,Int.toNat_natCast,Nat.zero_div,Nat.zero_add]at hk⊢;exact⟨by simp,by omega,by omega,hk⟩
   |part b q l n=>
    simp only[Al,Bool.and_eq_true,Bf,A2,Option.some.injEq]at he;obtain⟨⟨⟨h1,h2⟩,rfl⟩,rfl⟩:=he;simp only[RS.iv,RS.vv,Int.toNat_natCast,Nat.mul_div_cancel _ h2]at hk⊢;exact⟨by simp,by omega,by omega,hk⟩
   |_=>cases he
  ·cases he
theorem Ai7{i:TK}{x ix:RS}(hx:x.wf n)(he:Zp i x ix=some v):v.wf n:=by
 unfold Zp at he;split at he
 ·cases he
 ·split at he
  ·rw[Al]at he
   have he:=he.2;cases x with
   |ptr b p=>simp only[Option.some.injEq]at he;subst he;exact hx
   |fp cs=>
    simp only[Al,Option.some.injEq]at he;obtain⟨h2,rfl⟩:=he;simp only[RS.wf]at hx⊢;exact P7 _ hx
   |rp b q r f=>simp only[Option.some.injEq]at he;subst he;exact hx
   |_=>cases he
  ·cases x with
   |sl q es=>
    simp only[Al]at he;have he:=he.2;split at he
    ·rename_i e hg
     injection he with he;subst he;simp only[RS.wf]at hx⊢;exact L8 hx hg
    ·cases he
   |fsl q es=>
    simp only[Al]at he;have he:=he.2;split at he
    ·rename_i e hg
     injection he with he;subst he;simp only[RS.wf]at hx⊢;exact L8 hx hg
    ·cases he
   |row b n=>simp only[Al,Option.some.injEq]at he;obtain⟨_,rfl⟩:=he;exact hx
   |part b q l n=>simp only[Al,Option.some.injEq]at he;obtain⟨_,rfl⟩:=he;exact hx
   |_=>cases he
  ·cases he
def eIdx(i:TK)(x ix:RS):Option RS:=match eNat ix with
 |none=>none
 |some j=>match i.td with
  | .arr m esz ag=>match x with
   | .agg cs=>gd (Nat.blt j m) (Le ag esz (j*esz) cs)
   |_=>none
  | .str=>match x with
   | .v (.string s)=>match s.data.toList[j]? with
    |some b=>some (.v (.int .u8 b.toNat))
    |none=>none
   |_=>none
  |_=>none
theorem Anl{i:TK}{x ix:RS}(he:eIdx i x ix=some v)(hk:K (v.iv c)):Sg (some i) (x.iv c) (ix.iv c) K:=by
 unfold eIdx at he;split at he
 ·cases he
 ·rename_i j hj
  obtain⟨ik,rfl⟩:=Of hj;simp only[Sg,RS.iv,RS.vv];split at he
  ·rename_i m esz ag htd
   simp only[htd];cases x with
   |agg cs=>
    simp only[Al,Bf]at he;simp only[RS.iv,Int.toNat_natCast];exact⟨by omega,by omega,Js he.2 hk⟩
   |_=>cases he
  ·rename_i htd
   simp only[htd];split at he
   ·rename_i s
    split at he
    ·rename_i b hb
     injection he with he;subst he;simp only[RS.iv,RS.vv,Int.toNat_natCast,List.getD_eq_getElem?_getD,hb,Option.getD_some]at hk⊢;have:=Nq hb;rw[Array.length_toList]at this;exact⟨by omega,Int.ofNat_lt.2 this,hk⟩
    ·cases he
   ·cases he
  ·cases he
theorem Anm{i:TK}{x ix:RS}(hx:x.wf n)(he:eIdx i x ix=some v):v.wf n:=by
 unfold eIdx at he;split at he
 ·cases he
 ·split at he
  ·cases x with
   |agg cs=>simp only[Al]at he;simp only[RS.wf]at hx;exact Jt hx he.2
   |_=>cases he
  ·split at he
   ·split at he
    ·injection he with he;subst he;simp only[RS.wf]
    ·cases he
   ·cases he
  ·cases he
def eExt(x:RS)(j:Nat):Option RS:=match x with
 | .tup vs=>vs[j]?
 |_=>none
theorem Ang{x:RS}{j:Nat}(he:eExt x j=some v)(hk:K (v.iv c)):Hp (x.iv c) j K:=by
 cases x with
 |tup vs=>
  simp only[eExt]at he;simp only[RS.iv,Hp,Dd,Ts he];exact⟨Nq he,hk⟩
 |_=>cases he
theorem Anh{x:RS}{j:Nat}(hx:x.wf n)(he:eExt x j=some v):v.wf n:=by
 cases x with
 |tup vs=>simp only[RS.wf]at hx;exact Sd hx he
 |_=>cases he
def Zr(c x y:RS):Option RS:=match c with
 | .v (.bool true)=>some x
 | .v (.bool false)=>some y
 |_=>none
theorem Aje{p x y:RS}(he:Zr p x y=some v)(hk:K (v.iv c)):Jm (p.iv c) (x.iv c) (y.iv c) K:=by
 unfold Zr at he;split at he
 ·injection he with he;subst he;simpa only[RS.iv,RS.vv,Jm,if_true]using hk
 ·injection he with he;subst he;simpa only[RS.iv,RS.vv,Jm,Bool.false_eq_true,if_false]using hk
 ·cases he
theorem Ajf{p x y:RS}(hx:x.wf n)(hy:y.wf n)(he:Zr p x y=some v):v.wf n:=by
 unfold Zr at he;split at he
 ·injection he with he;subst he;exact hx
 ·injection he with he;subst he;exact hy
 ·cases he
def eLen(i:TK)(x:RS):Option RS:=match i.td with
 | .str=>match x with
  | .v (.string s)=>some (.v (.int .i64 (.ofNat s.data.toList.length)))
  |_=>none
 | .sl _ _ _ _=>match x with
  | .sl _ es=>some (.v (.int .i64 (.ofNat es.length)))
  | .fsl _ es=>some (.v (.int .i64 (.ofNat es.length)))
  | .v (.slice _ n _)=>some (.v (.int .i64 (.ofNat n)))
  | .row _ n=>some (.v (.int .i64 (.ofNat n)))
  | .part _ _ _ n=>some (.v (.int .i64 (.ofNat n)))
  | .mt _ _ _=>some (.v (.int .i64 (.ofNat 0)))
  |_=>none
 | .arr m _ _=>some (.v (.int .i64 (.ofNat m)))
 |_=>none
theorem Ano{i:TK}{x:RS}(he:eLen i x=some v)(hk:K (v.iv c)):K6 (some i) (x.iv c) K:=by
 unfold eLen at he;simp only[K6];split at he
 ·rename_i htd
  simp only[htd];split at he
  ·injection he with he;subst he
   simpa only[RS.iv,RS.vv,ByteArray.size,Array.length_toList,Int.ofNat_eq_natCast]using hk
  ·cases he
 ·rename_i htd
  simp only[htd]
  split at he<;>first
   |(cases he;done)
   |(injection he with he;subst he;simpa only[RS.iv,RS.vv,Bw,Int.ofNat_eq_natCast]using hk)
 ·rename_i htd
  simp only[htd];injection he with he;subst he;simpa only[RS.iv,RS.vv,Int.ofNat_eq_natCast]using hk
 ·cases he
theorem Anp{i:TK}{x:RS}(he:eLen i x=some v):v.wf n:=by
 unfold eLen at he;split at he
 ·split at he<;>first|(cases he;done)|(injection he with he;subst he;simp only[RS.wf])
 ·split at he<;>first|(cases he;done)|(injection he with he;subst he;simp only[RS.wf])
 ·injection he with he;subst he;simp only[RS.wf]
 ·cases he
def Od(fs:Nat→Option (Nat×Nat)):List RS→List (Nat×RS)→Option RS
 |cs,[]=>some (.agg cs)
 |cs,(j,x)::r=>match fs j with
  |some (off,sz)=>gd (Nat.beq x.cells.length sz&&Nat.ble (off+sz) cs.length) (Od fs (Mq cs off x.cells) r)
  |none=>none
def ivp(c:Cx)(ps:List (Nat×RS)):List (Nat×AV):=ps.map fun p=>(p.1,p.2.iv c)
theorem Tb(ha:∀i,(c.a i).one=true∧(c.a i).cells=[c.a i]){fs:Nat→Option (Nat×Nat)}(hk:K (v.iv c)):∀{ps:List (Nat×RS)} {cs:List RS},Od fs cs ps=some v→Hg fs K (RS.ivs c cs) (ivp c ps)
 | [],cs,he=>by simp only[Od,Option.some.injEq]at he;subst he;simpa only[RS.iv,ivp,List.map_nil,Hg]using hk
 |(j,x)::r,cs,he=>by
  simp only[Od]at he;simp only[ivp,List.map_cons,Hg];split at he
  ·rename_i off sz hf
   rw[Al,Bool.and_eq_true,A2,Bz]at he;simp only[hf,Lb ha,Dd];refine⟨he.1.1,he.1.2,?_⟩;rw[←Ns];exact Tb ha hk he.2
  ·cases he
theorem Tc{fs:Nat→Option (Nat×Nat)}:∀{ps:List (Nat×RS)} {cs:List RS},(∀p∈ps,p.2.wf n)→RS.wfs n cs→Od fs cs ps=some v→v.wf n
 | [],cs,_,hc,he=>by simp only[Od,Option.some.injEq]at he;subst he;simpa only[RS.wf]using hc
 |(j,x)::r,cs,hp,hc,he=>by
  simp only[Od]at he;split at he
  ·rw[Al]at he
   exact Tc (fun p h=>hp p (by simp[h])) (Nz _ hc (Ob (hp (j,x) (by simp)))) he.2
  ·cases he
def S9(i:TK)(ps:List (Nat×RS)):Option RS:=match i.td with
 | .st fs=>Od (fun j=>(fs[j]?).map fun f=>(f.1,f.2.1)) (i.zr.map .v) ps
 | .arr _ esz _=>Od (fun j=>some (j*esz,esz)) (i.zr.map .v) ps
 |_=>none
theorem Agx(ha:∀i,(c.a i).one=true∧(c.a i).cells=[c.a i]){i:TK}{ps:List (Nat×RS)}(he:S9 i ps=some v)(hk:K (v.iv c)):H8 (some i) (ivp c ps) K:=by
 unfold S9 at he;simp only[H8];split at he
 ·rename_i fs htd;simp only[htd];rw[←Tt c];exact Tb ha hk he
 ·rename_i m esz ag htd;simp only[htd];rw[←Tt c];exact Tb ha hk he
 ·cases he
theorem Agy{i:TK}{ps:List (Nat×RS)}(hp:∀p∈ps,p.2.wf n)(he:S9 i ps=some v):v.wf n:=by
 unfold S9 at he;split at he
 ·exact Tc hp (Uv n _) he
 ·exact Tc hp (Uv n _) he
 ·cases he
def Ld(esz:Nat):List (List RS)→List (Nat×RS)→Option RS
 |es,[]=>some (.fsl esz es)
 |es,(j,x)::r=>gd (Nat.blt j es.length&&Nat.beq x.cells.length esz&&x.cells.all RS.one) (Ld esz (es.set j x.cells) r)
theorem Vb(ha:∀i,(c.a i).one=true∧(c.a i).cells=[c.a i]){esz:Nat}(hk:K (v.iv c)):∀{ps:List (Nat×RS)} {es:List (List RS)},Ld esz es ps=some v→Hq esz (fun es=>K (.fsl esz es)) (RS.ivss c es) (ivp c ps)
 | [],es,he=>by simp only[Ld,Option.some.injEq]at he;subst he;simpa only[RS.iv,ivp,List.map_nil,Hq]using hk
 |(j,x)::r,es,he=>by
  simp only[Ld]at he;simp only[ivp,List.map_cons,Hq];rw[Al,Bool.and_eq_true,Bool.and_eq_true,Bf,A2]at he;simp only[Lb ha,Dd,Bw,Xu ha];refine⟨he.1.1.1,he.1.1.2,he.1.2,?_⟩;rw[←Aaf];exact Vb ha hk he.2
theorem Vd{esz:Nat}:∀{ps:List (Nat×RS)} {es:List (List RS)},(∀p∈ps,p.2.wf n)→RS.wfss n es→Ld esz es ps=some v→v.wf n
 | [],es,_,hc,he=>by simp only[Ld,Option.some.injEq]at he;subst he;simpa only[RS.wf]using hc
 |(j,x)::r,es,hp,hc,he=>by
  simp only[Ld]at he;rw[Al]at he;exact Vd (fun p h=>hp p (by simp[h])) (Abs hc (Ob (hp (j,x) (by simp)))) he.2
theorem Aae(m:Nat)(l:List Value):RS.ivss c (List.replicate m (l.map .v))=List.replicate m (l.map AV.v):=by
 rw[Cq,List.map_replicate,Tt]
theorem Abr(n m:Nat)(l:List Value):RS.wfss n (List.replicate m (l.map .v)):=Dh.2 fun x hx=>by
 obtain⟨_,rfl⟩:=List.mem_replicate.1 hx;exact Uv n l
def Oc(i:TK)(len:Nat)(ps:List (Nat×RS)):Option RS:=match i.td with
 | .sl esz _ ez _=>gd (Nat.blt 0 esz&&Nat.ble (len*esz) 16777216&&ez.all Value.oneCell') (Ld esz (List.replicate len (ez.map .v)) ps)
 |_=>none
theorem Ab6(ha:∀i,(c.a i).one=true∧(c.a i).cells=[c.a i]){i:TK}{len:Nat}{ps:List (Nat×RS)}(he:Oc i len ps=some v)(hk:K (v.iv c)):Hc (some i) len (ivp c ps) K:=by
 unfold Oc at he;simp only[Hc];split at he
 ·rename_i esz eby ez byt htd
  simp only[htd];rw[Al,Bool.and_eq_true,Bool.and_eq_true,Bf,Bz]at he;refine⟨he.1.1.1,he.1.1.2,he.1.2,?_⟩;rw[←Aae (c:=c)];exact Vb ha hk he.2
 ·cases he
theorem Ab7{i:TK}{len:Nat}{ps:List (Nat×RS)}(hp:∀p∈ps,p.2.wf n)(he:Oc i len ps=some v):v.wf n:=by
 unfold Oc at he;split at he
 ·rw[Al]at he
  exact Vd hp (Abr n _ _) he.2
 ·cases he
def eEvp(fr:Tr RS):List (Nat×Operand)→Option (List (Nat×RS))
 | []=>some []
 |(j,x)::l=>match eEv fr x with
  |some v=>match eEvp fr l with
   |some vs=>some ((j,v)::vs)
   |none=>none
  |none=>none
theorem W6:∀{l:List (Nat×Operand)} {vs:List (Nat×RS)},eEvp fr l=some vs→evs (ifr c fr).ev l=ivp c vs
 | [],vs,he=>by simp only[eEvp,Option.some.injEq]at he;subst he;rfl
 |(j,x)::l,vs,he=>by
  simp only[eEvp]at he;split at he
  ·rename_i v hv
   split at he
   ·rename_i vs' hvs
    injection he with he;subst he;have:=W6 hvs;simp only[evs,ivp,List.map_cons,Bj hv]at this⊢;rw[this]
   ·cases he
  ·cases he
theorem W7(hf:wfr n fr):∀{l:List (Nat×Operand)} {vs:List (Nat×RS)},eEvp fr l=some vs→∀p∈vs,p.2.wf n
 | [],vs,he=>by simp only[eEvp,Option.some.injEq]at he;subst he;exact fun p hp=>by cases hp
 |(j,x)::l,vs,he=>by
  simp only[eEvp]at he;split at he
  ·rename_i v hv
   split at he
   ·rename_i vs' hvs
    injection he with he;subst he;intro p hp;rcases List.mem_cons.1 hp with rfl|hp
    ·exact Ck hf hv
    ·exact W7 hf hvs p hp
   ·cases he
  ·cases he
end
def lim:IntKind→Nat
 | .i8| .u8=>256
 | .i16| .u16=>65536
 | .i32| .u32=>4294967296
 | .i64| .u64=>18446744073709551616
def half:IntKind→Nat
 | .i8=>128
 | .u8=>256
 | .i16=>32768
 | .u16=>65536
 | .i32=>2147483648
 | .u32=>4294967296
 | .i64=>9223372036854775808
 | .u64=>18446744073709551616
def wr(k:IntKind)(r:Nat):Int:=match Nat.blt r (half k)with
 |true=>.ofNat r
 |false=>Int.subNatNat r (lim k)
def Jv(k:IntKind):Int→Int
 | .ofNat m=>wr k (m % lim k)
 | .negSucc m=>wr k (lim k-1-m % lim k)
theorem Arn(k:IntKind)(r:Nat)(n:Int)(h:(r:Int)=n %(lim k:Int)):wr k r=k.wrap n:=by
 unfold wr;rw[IntKind.wrap];cases hb:Nat.blt r (half k)with
 |true=>
  rw[Bf]at hb;simp only;cases k<;>simp only[half,lim,IntKind.bits,IntKind.signed,Int.ofNat_eq_natCast]at hb h⊢ <;>simp<;>omega
 |false=>
  have hb':¬r<half k:=fun h=>by rw[←Bf,hb]at h;cases h
  simp only[Int.subNatNat_eq_coe];cases k<;>simp only[half,lim,IntKind.bits,IntKind.signed]at hb' h⊢ <;>simp<;>omega
theorem Dy(k:IntKind)(n:Int):Jv k n=k.wrap n:=by
 cases n with
 |ofNat m=>
  refine Arn k _ _ ?_;simp
 |negSucc m=>
  refine Arn k _ _ ?_;have:0<lim k:=by cases k<;>decide
  have h2:m % lim k<lim k:=Nat.mod_lt _ this;have e:(Int.negSucc m)%(lim k:Int)=(lim k:Int)-1-((m % lim k:Nat):Int):=by
   rw[Int.negSucc_emod _ (by omega)];simp
  rw[e];omega
def ieq:Int→Int→Bool
 | .ofNat a,.ofNat b=>Nat.beq a b
 | .negSucc a,.negSucc b=>Nat.beq a b
 |_,_=>false
def ilt:Int→Int→Bool
 | .ofNat a,.ofNat b=>Nat.blt a b
 | .negSucc a,.negSucc b=>Nat.blt b a
 | .negSucc _,.ofNat _=>true
 | .ofNat _,.negSucc _=>false
theorem Ss{b:Bool}{p:Prop}[Decidable p](h:b=true↔p):b=decide p:=by
 cases b with
 |true=>exact(decide_eq_true (h.1 rfl)).symm
 |false=>exact(decide_eq_false fun hp=>by have:=h.2 hp;cases this).symm
theorem Qu(a b:Int):ieq a b=decide (a=b):=Ss (by
 cases a<;>cases b<;>simp only[ieq,A2,Int.ofNat_eq_natCast,Bool.false_eq_true,false_iff,true_iff]<;>omega)
theorem Acm(a b:Int):ilt a b=decide (a<b):=Ss (by
 cases a<;>cases b<;>simp only[ilt,Bf,Int.ofNat_eq_natCast,Bool.false_eq_true,false_iff,true_iff]<;>omega)
theorem Afh(a b:Int):(!ilt a b)=decide (b≤a):=by
 rw[Acm];by_cases h:a<b
 ·rw[decide_eq_true h,decide_eq_false (by omega)];rfl
 ·rw[decide_eq_false h,decide_eq_true (by omega)];rfl
def Ki(op:BinOp)(k:IntKind)(x y:Int):Option Value:=match op with
 | .add=>some (.int k (Jv k (x+y)))
 | .sub=>some (.int k (Jv k (x-y)))
 | .mul=>some (.int k (Jv k (x*y)))
 | .quo=>gd (!ieq y 0) (some (.int k (Jv k (x.tdiv y))))
 | .rem=>gd (!ieq y 0) (some (.int k (x.tmod y)))
 | .eql=>some (.bool (ieq x y))
 | .neq=>some (.bool (!ieq x y))
 | .lss=>some (.bool (ilt x y))
 | .leq=>some (.bool (!ilt y x))
 | .gtr=>some (.bool (ilt y x))
 | .geq=>some (.bool (!ilt x y))
 | .shl=>match y with
  | .ofNat m=>some (.int k (Jv k (x*((2^min m k.bits:Nat):Int))))
  | .negSucc _=>none
 | .shr=>match y with
  | .ofNat m=>some (.int k (x.fdiv ((2^min m k.bits:Nat):Int)))
  | .negSucc _=>none
 | .and=>some (.int k (Jv k ((BitVec.ofInt k.bits x&&&BitVec.ofInt k.bits y).toNat:Int)))
 | .or=>some (.int k (Jv k ((BitVec.ofInt k.bits x|||BitVec.ofInt k.bits y).toNat:Int)))
 | .xor=>some (.int k (Jv k ((BitVec.ofInt k.bits x^^^BitVec.ofInt k.bits y).toNat:Int)))
 | .andNot=>some (.int k (Jv k ((BitVec.ofInt k.bits x&&& ~~~BitVec.ofInt k.bits y).toNat:Int)))
section
variable{K:AV→Prop}
theorem Ann{op:BinOp}{k:IntKind}{x y:Int}{v:Value}(he:Ki op k x y=some v)(hk:K (.v v)):Ga op k x y K:=by
 cases op with
 |add=>simp only[Ki,Option.some.injEq]at he;subst he;rw[Dy]at hk;exact hk
 |sub=>simp only[Ki,Option.some.injEq]at he;subst he;rw[Dy]at hk;exact hk
 |mul=>simp only[Ki,Option.some.injEq]at he;subst he;rw[Dy]at hk;exact hk
 |and=>simp only[Ki,Option.some.injEq]at he;subst he;rw[Dy]at hk;exact hk
 |or=>simp only[Ki,Option.some.injEq]at he;subst he;rw[Dy]at hk;exact hk
 |xor=>simp only[Ki,Option.some.injEq]at he;subst he;rw[Dy]at hk;exact hk
 |andNot=>simp only[Ki,Option.some.injEq]at he;subst he;rw[Dy]at hk;exact hk
 |quo=>
  simp only[Ki,Al,Qu,Option.some.injEq]at he;obtain⟨h1,rfl⟩:=he;rw[Dy]at hk;exact⟨by simpa using h1,hk⟩
 |rem=>
  simp only[Ki,Al,Qu,Option.some.injEq]at he;obtain⟨h1,rfl⟩:=he;exact⟨by simpa using h1,hk⟩
 |eql=>simp only[Ki,Option.some.injEq]at he;subst he;rw[Qu]at hk;exact hk
 |neq=>simp only[Ki,Option.some.injEq]at he;subst he;rw[Qu]at hk;simpa only[Ga,ne_eq,decide_not]using hk
 |lss=>simp only[Ki,Option.some.injEq]at he;subst he;rw[Acm]at hk;exact hk
 |leq=>simp only[Ki,Option.some.injEq]at he;subst he;rw[Afh]at hk;exact hk
 |gtr=>simp only[Ki,Option.some.injEq]at he;subst he;rw[Acm]at hk;exact hk
 |geq=>simp only[Ki,Option.some.injEq]at he;subst he;rw[Afh]at hk;exact hk
 |shl=>
  simp only[Ki]at he;cases y with
  |ofNat m=>
   simp only[Option.some.injEq]at he;subst he;rw[Dy]at hk;simp only[Ga,Int.ofNat_eq_natCast,Int.toNat_natCast];refine⟨by omega,?_⟩;simpa using hk
  |negSucc m=>cases he
 |shr=>
  simp only[Ki]at he;cases y with
  |ofNat m=>
   simp only[Option.some.injEq]at he;subst he;simp only[Ga,Int.ofNat_eq_natCast,Int.toNat_natCast];refine⟨by omega,?_⟩;simpa using hk
  |negSucc m=>cases he
def Rs:List UInt8→List UInt8→Bool
 | [],[]=>true
 |a::x,b::y=>match Nat.beq a.toNat b.toNat with
  |true=>Rs x y
  |false=>false
 |_,_=>false
def bltB:List UInt8→List UInt8→Bool
 |_,[]=>false
 | [],_::_=>true
 |a::x,b::y=>match Nat.blt a.toNat b.toNat with
  |true=>true
  |false=>match Nat.beq a.toNat b.toNat with
   |true=>bltB x y
   |false=>false
theorem Sq:∀{x y:List UInt8},Rs x y=true↔x=y
 | [],[]=>by simp[Rs]
 | [],_::_=>by simp[Rs]
 |_::_,[]=>by simp[Rs]
 |a::x,b::y=>by
  simp only[Rs];cases hb:Nat.beq a.toNat b.toNat with
  |true=>
   rw[A2]at hb;have hab:a=b:=UInt8.toNat_inj.1 hb;simp only[Sq (x:=x),hab,List.cons.injEq,true_and]
  |false=>
   have hab:a≠b:=fun e=>by subst e;rw[Nat.beq_refl]at hb;cases hb
   simp[hab]
theorem N8:∀(x y:List UInt8),bltB x y=Op.bytesLess x y
 | [],[]=>by simp only[bltB,Op.bytesLess]
 |_::_,[]=>by simp only[bltB,Op.bytesLess]
 | [],_::_=>by simp only[bltB,Op.bytesLess]
 |a::x,b::y=>by
  simp only[bltB,Op.bytesLess];cases hl:Nat.blt a.toNat b.toNat with
  |true=>
   rw[Bf]at hl;have:a<b:=UInt8.lt_iff_toNat_lt.2 hl;simp[this]
  |false=>
   have hl':¬a<b:=fun h=>by
    have:=Bf.2 (UInt8.lt_iff_toNat_lt.1 h);rw[hl]at this;cases this
   cases hb:Nat.beq a.toNat b.toNat with
   |true=>
    rw[A2]at hb;have hab:a=b:=UInt8.toNat_inj.1 hb;simp[hl',hab,N8 x y]
   |false=>
    have hab:a≠b:=fun e=>by subst e;rw[Nat.beq_refl]at hb;cases hb
    simp[hl',hab]
theorem Ad6{x y:ByteArray}:x=y↔x.data.toList=y.data.toList:=by
 cases x;cases y
 simp[ByteArray.mk.injEq,Array.toList_inj]
theorem Rv(x:ByteArray):x.toList=x.data.toList:=by
 exact ByteArray.toList_eq x
def eStr(op:BinOp)(x y:List UInt8):Option Value:=match op with
 | .add=>gd (Nat.ble (x.length+y.length) 9223372036854775807) (some (.string ⟨(x++y).toArray⟩))
 | .eql=>some (.bool (Rs x y))
 | .neq=>some (.bool (!Rs x y))
 | .lss=>some (.bool (bltB x y))
 | .leq=>some (.bool (bltB x y||Rs x y))
 | .gtr=>some (.bool (!(bltB x y||Rs x y)))
 | .geq=>some (.bool (!bltB x y))
 |_=>none
theorem La(x y:ByteArray):Rs x.data.toList y.data.toList=decide (x=y):=Ss (by rw[Sq,←Ad6])
theorem Arx(x y:ByteArray):(⟨(x.data.toList++y.data.toList).toArray⟩:ByteArray)=x++y:=Ad6.2 (by simp)
theorem Anx{op:BinOp}{x y:ByteArray}{v:Value}(he:eStr op x.data.toList y.data.toList=some v)(hk:K (.v v)):K8 op x y K:=by
 cases op with
 |add=>
  simp only[eStr,Al,Bz,Option.some.injEq]at he;obtain⟨h1,rfl⟩:=he;rw[Arx]at hk;exact⟨by simpa only[Array.length_toList,ByteArray.size]using h1,hk⟩
 |eql=>simp only[eStr,Option.some.injEq]at he;subst he;rw[La]at hk;exact hk
 |neq=>simp only[eStr,Option.some.injEq]at he;subst he;rw[La]at hk;simpa only[K8,ne_eq,decide_not]using hk
 |lss=>simp only[eStr,Option.some.injEq]at he;subst he;rw[N8]at hk;simpa only[K8,Rv]using hk
 |leq=>simp only[eStr,Option.some.injEq]at he;subst he;rw[N8,La]at hk;simpa only[K8,Rv]using hk
 |gtr=>simp only[eStr,Option.some.injEq]at he;subst he;rw[N8,La]at hk;simpa only[K8,Rv]using hk
 |geq=>simp only[eStr,Option.some.injEq]at he;subst he;rw[N8]at hk;simpa only[K8,Rv]using hk
 |_=>cases he
end
structure TE where
 k:TK
 sl:Bool
 ptr:Bool
 fn:Bool
 mp:Bool
 bl:Bool
 cc:Bool
 lv:Option (List Du)
structure Gl(P:Program)(t:TypeId)(e:TE):Prop where
 k:tk P t=some e.k
 sl:Fi P t=e.sl
 ptr:Er P t=e.ptr
 fn:isFn P t=e.fn
 mp:Tq P t=e.mp
 bl:Qw P t=e.bl
 cc:Ll P t=e.cc
 lv:∀ls,e.lv=some ls→N5 P t=true∧P.eqGuardType P.depth t=false∧Gf P 9 t=some ls
def Wm:List RS→Option (List Value)
 | []=>some []
 | .v x::l=>match Wm l with
  |some vs=>some (x::vs)
  |none=>none
 |_=>none
def R4:Value→Value→Bool
 | .bool a,.bool b=>match a with
  |true=>b
  |false=>!b
 | .int _ a,.int _ b=>ieq a b
 | .string a,.string b=>Rs a.data.toList b.data.toList
 |_,_=>true
def eqLF:List Value→List Value→Bool
 |x::xs,y::ys=>match R4 x y with
  |true=>eqLF xs ys
  |false=>false
 |_,_=>true
def Lf:List Du→List Value→Bool
 | [],[]=>true
 | .b::ls,.bool _::vs=>Lf ls vs
 | .s::ls,.string _::vs=>Lf ls vs
 | .i k::ls,.int k' _::vs=>match decide (k=k')with
  |true=>Lf ls vs
  |false=>false
 |_,_=>false
theorem Acc(x y:Value):R4 x y=Hs x y:=by
 cases x<;>cases y<;>try rfl
 ·rename_i a b;cases a<;>cases b<;>rfl
 ·simp only[R4,Hs,Qu]
 ·simp only[R4,Hs,La]
theorem Aex:∀(xs ys:List Value),eqLF xs ys=eqL xs ys
 | [],[]=>rfl
 | [],_::_=>rfl
 |_::_,[]=>rfl
 |x::xs,y::ys=>by
  simp only[eqLF,eqL,Acc,Aex xs ys];cases Hs x y<;>rfl
theorem On:∀{ls:List Du} {vs:List Value},Lf ls vs=true→Fit ls vs=true
 | [],[],_=>rfl
 | .b::ls,.bool _::vs,h=>by simp only[Lf]at h;simp[Fit,Du.ok,On h]
 | .s::ls,.string _::vs,h=>by simp only[Lf]at h;simp[Fit,Du.ok,On h]
 | .i k::ls,.int k' _::vs,h=>by
  simp only[Lf]at h;split at h
  ·rename_i hk;simp[Fit,Du.ok,On h,hk]
  ·cases h
 | [],_::_,h=>by simp[Lf]at h
 |l::_,[],h=>by cases l<;>simp[Lf]at h
 | .b::_,.int _ _::_,h=>by simp[Lf]at h
 | .b::_,.string _::_,h=>by simp[Lf]at h
 | .s::_,.bool _::_,h=>by simp[Lf]at h
 | .s::_,.int _ _::_,h=>by simp[Lf]at h
 | .i _::_,.bool _::_,h=>by simp[Lf]at h
 | .i _::_,.string _::_,h=>by simp[Lf]at h
section
variable{P:Program}{σ0 σ:St}{c c':Cx}{h h':Sto}{n:Nat}{fr:Tr RS}{v:RS}{K:AV→Prop}{k:AV→St→Prop}
theorem Ut:∀{l:List RS} {vs:List Value},Wm l=some vs→Rt (RS.ivs c l)=some vs
 | [],vs,he=>by simp only[Wm,Option.some.injEq]at he;subst he;rfl
 | .v x::l,vs,he=>by
  simp only[Wm]at he;split at he
  ·rename_i vs' hv
   injection he with he;subst he;simp only[RS.ivs,RS.iv,RS.vv,Rt,Ut hv,Option.map_some]
  ·cases he
def eEqv(neg:Bool)(te:TE):RS→RS→Option Bool
 | .v (.bool a),.v (.bool b)=>gd te.bl (some (match neg,a with|true,true=>!b|true,false=>b|false,true=>b|false,false=>!b))
 | .v (.pointer p),.v (.pointer none)=>gd te.ptr (some (match neg with|true=>p.isSome|false=>p.isNone))
 | .ptr _ _,.v (.pointer none)=>gd te.ptr (some neg)
 | .v (.pointer none),.ptr _ _=>gd te.ptr (some neg)
 | .fp _,.v (.pointer none)=>gd te.ptr (some neg)
 | .rp _ _ _ _,.v (.pointer none)=>gd te.ptr (some neg)
 | .v (.slice a _ _),.v (.slice none 0 0)=>gd te.sl (some (match neg with|true=>a.isSome|false=>a.isNone))
 | .row _ _,.v (.slice none 0 0)=>gd te.sl (some neg)
 | .part _ _ _ _,.v (.slice none 0 0)=>gd te.sl (some neg)
 | .mt _ _ _,.v (.slice none 0 0)=>gd te.sl (some neg)
 | .sl _ (_::_),.v (.slice none 0 0)=>gd te.sl (some neg)
 | .fsl _ (_::_),.v (.slice none 0 0)=>gd te.sl (some neg)
 | .v (.map m),.v (.map none)=>gd te.mp (some (match neg with|true=>m.isSome|false=>m.isNone))
 | .mp _,.v (.map none)=>gd te.mp (some neg)
 | .fn _ _ _,.v .nilFunc=>gd te.fn (some neg)
 | .yld _,.v .nilFunc=>gd te.fn (some neg)
 | .v .nilFunc,.v .nilFunc=>gd te.fn (some (!neg))
 |_,_=>none
def eAgg(neg:Bool)(te:TE)(xs ys:List RS):Option Bool:=match te.lv with
 |some ls=>match Wm xs with
  |some vs=>match Wm ys with
   |some ws=>gd (Lf ls vs&&Lf ls ws) (some (match neg with|true=>!eqLF vs ws|false=>eqLF vs ws))
   |none=>none
  |none=>none
 |none=>none
def eEq2(neg:Bool)(te:TE):RS→RS→Option Bool
 | .agg xs,.agg ys=>eAgg neg te xs ys
 |x,y=>eEqv neg te x y
def eBin(op:BinOp)(te:TE):RS→RS→Option RS
 | .v (.int k a),.v (.int k' b)=>match decide (k=k')||isSh op with
  |true=>match Ki op k a b with
   |some v=>some (.v v)
   |none=>none
  |false=>none
 | .v (.string a),.v (.string b)=>match eStr op a.data.toList b.data.toList with
  |some v=>some (.v v)
  |none=>none
 |x,y=>match op with
  | .eql=>match eEq2 false te x y with
   |some b=>some (.v (.bool b))
   |none=>none
  | .neq=>match eEq2 true te x y with
   |some b=>some (.v (.bool b))
   |none=>none
  |_=>none
theorem Anf{t:TypeId}{te:TE}(ht:Gl P t te){neg:Bool}{x y:RS}{b:Bool}(he:eEqv neg te x y=some b)(hk:K (.v (.bool b))):
  (∀op,op=(if neg then BinOp.neq else .eql)→D9 P op t (x.iv c) (y.iv c) K):=by
 rintro op rfl;unfold eEqv at he
 split at he<;>first
  |(cases he;done)
  |(rw[Al]at he
    obtain⟨hf,he⟩:=he;injection he with he;subst he
    cases neg<;>first
     |(refine⟨ht.bl.trans hf,?_⟩;rename_i a b;cases a<;>cases b<;>exact hk)
     |exact⟨ht.ptr.trans hf,hk⟩
     |exact⟨ht.sl.trans hf,hk⟩
     |exact⟨ht.mp.trans hf,hk⟩
     |exact⟨ht.fn.trans hf,hk⟩
     |(refine⟨ht.sl.trans hf,fun _=>hk,fun h=>?_⟩;simp only[RS.ivss]at h;cases h))
theorem Am9{t:TypeId}{te:TE}(ht:Gl P t te){neg:Bool}{xs ys:List RS}{b:Bool}(he:eAgg neg te xs ys=some b)(hk:K (.v (.bool b))):Rp P neg t (.agg (RS.ivs c xs)) (.agg (RS.ivs c ys)) K:=by
 unfold eAgg at he;split at he
 ·rename_i ls hls
  split at he
  ·rename_i vs hvs
   split at he
   ·rename_i ws hws
    rw[Al,Bool.and_eq_true]at he;obtain⟨hf,he⟩:=he;injection he with he;subst he;obtain⟨h1,h2,h3⟩:=ht.lv ls hls;refine⟨h1,h2,_,_,vs,ws,ls,rfl,rfl,Ut hvs,Ut hws,h3,On hf.1,On hf.2,?_⟩;rw[Aex]at hk;cases neg<;>exact hk
   ·cases he
  ·cases he
 ·cases he
theorem Aeu{t:TypeId}{te:TE}(ht:Gl P t te){neg:Bool}{x y:RS}{b:Bool}(he:eEq2 neg te x y=some b)(hk:K (.v (.bool b))):
  (∀op,op=(if neg then BinOp.neq else .eql)→D9 P op t (x.iv c) (y.iv c) K):=by
 unfold eEq2 at he;split at he
 ·rintro op rfl
  have:=Am9 (c:=c) ht he hk;cases neg<;>exact this
 ·exact Anf ht he hk
theorem Anb{op:BinOp}{t:TypeId}{te:TE}(ht:Gl P t te){x y:RS}(he:eBin op te x y=some v)(hk:K (v.iv c)):D9 P op t (x.iv c) (y.iv c) K:=by
 unfold eBin at he;split at he
 ·rename_i k a k' b
  split at he
  ·rename_i hkk
   have hkk:k=k'∨isSh op=true:=by
    rcases Bool.or_eq_true _ _▸hkk with h|h
    ·exact .inl (of_decide_eq_true h)
    ·exact .inr h
   split at he
   ·rename_i w hw
    injection he with he;subst he;simp only[RS.iv,RS.vv]at hk⊢;exact⟨hkk,Ann hw hk⟩
   ·cases he
  ·cases he
 ·rename_i a b
  split at he
  ·rename_i w hw
   injection he with he;subst he;simp only[RS.iv,RS.vv]at hk⊢;exact Anx hw hk
  ·cases he
 ·split at he
  ·split at he
   ·rename_i b hb
    injection he with he;subst he;simp only[RS.iv,RS.vv]at hk;exact Aeu ht hb hk _ rfl
   ·cases he
  ·split at he
   ·rename_i b hb
    injection he with he;subst he;simp only[RS.iv,RS.vv]at hk;exact Aeu ht hb hk _ rfl
   ·cases he
  ·cases he
theorem Anc{op:BinOp}{te:TE}{x y:RS}(he:eBin op te x y=some v):v.wf n:=by
 unfold eBin at he;split at he
 ·split at he
  ·split at he
   ·injection he with he;subst he;simp only[RS.wf]
   ·cases he
  ·cases he
 ·split at he
  ·injection he with he;subst he;simp only[RS.wf]
  ·cases he
 ·split at he
  ·split at he
   ·injection he with he;subst he;simp only[RS.wf]
   ·cases he
  ·split at he
   ·injection he with he;subst he;simp only[RS.wf]
   ·cases he
  ·cases he
def eUn(op:UnOp)(x:RS):Option RS:=match op,x with
 | .not,.v (.bool b)=>some (.v (.bool (!b)))
 | .neg,.v (.int ik m)=>some (.v (.int ik (Jv ik (0-m))))
 | .xor,.v (.int ik m)=>some (.v (.int ik (Jv ik ((BitVec.ofInt ik.bits (if ik.signed then-1 else ik.max)^^^BitVec.ofInt ik.bits m).toNat:Int))))
 |_,_=>none
theorem Ar2{op:UnOp}{x:RS}(he:eUn op x=some v)(hk:K (v.iv c)):aUn op (x.iv c) K:=by
 unfold eUn at he;split at he
 ·injection he with he;subst he;simpa only[RS.iv,RS.vv,aUn]using hk
 ·injection he with he;subst he;rw[Dy]at hk;simpa only[RS.iv,RS.vv,aUn]using hk
 ·injection he with he;subst he;rw[Dy]at hk;simpa only[RS.iv,RS.vv,aUn]using hk
 ·cases he
theorem Ar3{op:UnOp}{x:RS}(he:eUn op x=some v):v.wf n:=by
 unfold eUn at he;split at he
 ·injection he with he;subst he;simp only[RS.wf]
 ·injection he with he;subst he;simp only[RS.wf]
 ·injection he with he;subst he;simp only[RS.wf]
 ·cases he
end
section
variable{P:Program}{σ0 σ:St}{c c':Cx}{h h':Sto}{n:Nat}{fr:Tr RS}{v:RS}{K:AV→Prop}{k:AV→St→Prop}
def M9(d:Nat):Option RS→Option Nat
 |none=>some d
 |some x=>eNat x
theorem Hm{d:Nat}{x:Option RS}{j:Nat}(he:M9 d x=some j):Jz (d:Int) (x.map (RS.iv c))=some (j:Int):=by
 cases x with
 |none=>simp only[M9,Option.some.injEq]at he;subst he;rfl
 |some x=>
  obtain⟨ik,rfl⟩:=Of he;simp only[Option.map_some,RS.iv,RS.vv,Jz]
def Qy(b q l0 l r:Nat):RS:=match Nat.beq (l0+l) 0 with
 |true=>.row b r
 |false=>match Nat.blt l r with
  |true=>.part b q (l0+l) (r-l)
  |false=>.mt b (fun m=>Gn (m-l0) l (l0*q) q) (fun m=>m-l0-l)
theorem Vu{b q l0 l r:Nat}(hl:l≤r)(hr:l0+r≤c.k b):(Qy b q l0 l r).iv c= .v (.slice (some ⟨c.r b,Gn (c.k b-l0) l (l0*q) q,none⟩) (r-l) (c.k b-l0-l)):=by
 unfold Qy;cases h1:Nat.beq (l0+l) 0 with
 |true=>
  rw[A2]at h1;obtain rfl:l0=0:=by omega
  obtain rfl:l=0:=by omega
  simp only[RS.iv,RS.vv,Gn,Nat.zero_mul,Nat.add_zero,Nat.sub_zero,ite_self]
 |false=>
  cases h2:Nat.blt l r with
  |true=>
   rw[Bf]at h2;simp only[RS.iv,RS.vv,Gn];rw[if_neg (by omega),←Nat.add_mul,Nat.sub_sub]
  |false=>
   have h3:¬l<r:=fun h=>by rw[←Bf,h2]at h;cases h
   obtain rfl:l=r:=by omega
   simp only[RS.iv,RS.vv,Nat.sub_self]
theorem Vv{b q l0 l r:Nat}(hb:b<n):(Qy b q l0 l r).wf n:=by
 unfold Qy;split
 ·simp only[RS.wf];exact hb
 ·split<;>(simp only[RS.wf];exact hb)
def Zt(q:Nat):RS→Option (List (List RS))
 | .sl q' es=>gd (Nat.beq q' q) (some es)
 | .fsl q' es=>gd (Nat.beq q' q) (some es)
 | .v (.slice none 0 0)=>some []
 |_=>none
theorem Ajh{q:Nat}{x:RS}{es:List (List RS)}(he:Zt q x=some es):view q σ (x.iv c)=some (RS.ivss c es):=by
 unfold Zt at he;split at he
 ·rw[Al,A2]at he;obtain⟨rfl,he⟩:=he;injection he with he;subst he;simp only[RS.iv,view,if_true]
 ·rw[Al,A2]at he;obtain⟨rfl,he⟩:=he;injection he with he;subst he;simp only[RS.iv,view,if_true]
 ·injection he with he;subst he;rfl
 ·cases he
theorem Aji{q:Nat}{x:RS}{es:List (List RS)}(hx:x.wf n)(he:Zt q x=some es):RS.wfss n es:=by
 unfold Zt at he;split at he
 ·rw[Al]at he;have he:=he.2;injection he with he;subst he;simpa only[RS.wf]using hx
 ·rw[Al]at he;have he:=he.2;injection he with he;subst he;simpa only[RS.wf]using hx
 ·injection he with he;subst he;simp only[RS.wfss]
 ·cases he
def eSli(i:TK)(h:Sto)(x:RS)(lo hi mx:Option RS):Option RS:=match i.td with
 | .str=>match x,mx with
  | .v (.string s),none=>match M9 0 lo,M9 s.data.toList.length hi with
   |some l,some r=>gd (Nat.ble l r&&Nat.ble r s.data.toList.length) (some (.v (.string ⟨((s.data.toList.take r).drop l).toArray⟩)))
   |_,_=>none
  |_,_=>none
 | .sl q _ _ _=>match x,mx with
  | .row b n,none=>match M9 0 lo,M9 n hi with
   |some l,some r=>gd (Nat.ble l r&&Nat.ble r n&&Nat.ble n (h.get b).len) (some (Qy b q 0 l r))
   |_,_=>none
  | .part b q' l0 n,none=>match M9 0 lo,M9 n hi with
   |some l,some r=>gd (Nat.ble l r&&Nat.ble r n&&Nat.ble (l0+n) (h.get b).len&&Nat.beq q' q) (some (Qy b q l0 l r))
   |_,_=>none
  |x,none=>match Zt q x with
   |some es=>match M9 0 lo,M9 es.length hi with
    |some l,some r=>gd (Nat.ble l r&&Nat.ble r es.length) (some (.sl q ((es.take r).drop l)))
    |_,_=>none
   |none=>none
  |_,_=>none
 |_=>none
theorem Ary(s:ByteArray)(l r:Nat)(h:r≤s.size):(⟨((s.data.toList.take r).drop l).toArray⟩:ByteArray)=s.extract l r:=Ad6.2 (by
 simp[ByteArray.extract,ByteArray.copySlice,List.drop_take])
theorem Ant(hM:Mt σ0 c h σ){i:TK}{x:RS}{lo hi mx:Option RS}(hx:x.wf h.n)(he:eSli i h x lo hi mx=some v)(hk:K (v.iv c)):
  aSli (some i) σ (x.iv c) (lo.map (RS.iv c)) (hi.map (RS.iv c)) (mx.map (RS.iv c)) K:=by
 unfold eSli at he;simp only[aSli];split at he
 ·rename_i htd
  simp only[htd];split at he
  ·rename_i s
   split at he
   ·rename_i l r hl hr
    simp only[Al,Bool.and_eq_true,Bz,Option.some.injEq]at he;obtain⟨⟨h1,h2⟩,rfl⟩:=he;have hsz:s.data.toList.length=s.size:=Array.length_toList;rw[hsz]at h2;simp only[RS.iv,RS.vv]at hk⊢;rw[Ary s l r h2]at hk;have h3:=Hm (c:=c) hl;have h4:=Hm (c:=c) hr;rw[hsz]at h4;exact⟨rfl,l,r,h3,h4,by omega,by omega,by omega,by simpa using hk⟩
   ·cases he
  ·cases he
 ·rename_i q eby ez byt htd
  simp only[htd];split at he
  ·rename_i b n
   split at he
   ·rename_i l r hl hr
    simp only[Al,Bool.and_eq_true,Bz,Option.some.injEq]at he;obtain⟨⟨⟨h1,h2⟩,h3⟩,rfl⟩:=he;have hb:b<h.n:=by simpa only[RS.wf]using hx
    have hc:=hM.cap b hb;rw[Vu h1 (by omega)]at hk;refine .inl ⟨c.r b,0,n,c.k b,by simp only[RS.iv,RS.vv],(l:Int),(r:Int),(c.k b:Int),Hm hl,Hm hr,.inl ⟨rfl,rfl⟩,by omega,by omega,by omega,by omega,?_⟩;simpa only[Int.toNat_natCast,Nat.sub_zero,Nat.zero_mul]using hk
   ·cases he
  ·rename_i b q' l0 n
   split at he
   ·rename_i l r hl hr
    simp only[Al,Bool.and_eq_true,Bz,A2,Option.some.injEq]at he;obtain⟨⟨⟨⟨h1,h2⟩,h3⟩,rfl⟩,rfl⟩:=he;have hb:b<h.n:=by simpa only[RS.wf]using hx
    have hc:=hM.cap b hb;rw[Vu h1 (by omega)]at hk;refine .inl ⟨c.r b,l0*q',n,c.k b-l0,by simp only[RS.iv,RS.vv],(l:Int),(r:Int),((c.k b-l0:Nat):Int),Hm hl,Hm hr,.inl ⟨rfl,rfl⟩,by omega,by omega,by omega,by omega,?_⟩;simpa only[Int.toNat_natCast]using hk
   ·cases he
  ·split at he
   ·rename_i es hes
    split at he
    ·rename_i l r hl hr
     simp only[Al,Bool.and_eq_true,Bz,Option.some.injEq]at he;obtain⟨⟨h1,h2⟩,rfl⟩:=he;refine .inr ⟨RS.ivss c es,Ajh hes,(l:Int),(r:Int),Hm hl,by rw[Bw];exact Hm hr,by omega,by omega,by rw[Bw];omega,.inl ⟨rfl,?_⟩⟩;simp only[RS.iv,Int.toNat_natCast,H2,Mg]at hk⊢;exact hk
    ·cases he
   ·cases he
  ·cases he
 ·cases he
theorem Anu{i:TK}{x:RS}{lo hi mx:Option RS}(hx:x.wf n)(he:eSli i h x lo hi mx=some v):v.wf n:=by
 unfold eSli at he;split at he
 ·split at he
  ·split at he
   ·simp only[Al,Option.some.injEq]at he
    obtain⟨_,rfl⟩:=he;simp only[RS.wf]
   ·cases he
  ·cases he
 ·split at he
  ·split at he
   ·simp only[Al,Option.some.injEq]at he
    obtain⟨_,rfl⟩:=he;exact Vv (by simpa only[RS.wf]using hx)
   ·cases he
  ·split at he
   ·simp only[Al,Option.some.injEq]at he
    obtain⟨_,rfl⟩:=he;exact Vv (by simpa only[RS.wf]using hx)
   ·cases he
  ·split at he
   ·rename_i es hes
    split at he
    ·simp only[Al,Option.some.injEq]at he
     obtain⟨_,rfl⟩:=he;simp only[RS.wf];exact Mw _ (J9 _ (Aji hx hes))
    ·cases he
   ·cases he
  ·cases he
 ·cases he
def Zo(fn:Fn)(fi ca:List RS):Option RS:=match fn with
 | .func f=>gd (fi.all RS.isV&&ca.all RS.isV) (some (.fn f fi ca))
 |_=>none
theorem Qn{ev:Operand→AV}:∀{l:List Operand} {vs:List RS},l.map ev=vs.map (RS.iv c)→vs.all RS.isV=true→C9 ev l=some (RS.vvs c vs)
 | [],[],_,_=>rfl
 |x::l,v::vs,h,hv=>by
  simp only[List.map_cons,List.cons.injEq]at h;simp only[List.all_cons,Bool.and_eq_true]at hv;simp only[C9,h.1,Ij hv.1,Qn h.2 hv.2,RS.vvs]
 | [],_::_,h,_=>by simp at h
 |_::_,[],h,_=>by simp at h
theorem Ai4{ev:Operand→AV}{fn:Fn}{l m:List Operand}{fi ca:List RS}(hl:l.map ev=fi.map (RS.iv c))(hm:m.map ev=ca.map (RS.iv c))(he:Zo fn fi ca=some v)(hk:K (v.iv c)):Fq fn ev l m K:=by
 unfold Zo at he;split at he
 ·rw[Al,Bool.and_eq_true]at he
  obtain⟨hf,he⟩:=he;injection he with he;subst he;simp only[Fq,Qn hl hf.1,Qn hm hf.2];simpa only[RS.iv,RS.vv]using hk
 ·cases he
theorem Ai5{fn:Fn}{fi ca:List RS}(h1:RS.wfs n fi)(h2:RS.wfs n ca)(he:Zo fn fi ca=some v):v.wf n:=by
 unfold Zo at he;split at he
 ·rw[Al]at he
  have he:=he.2;injection he with he;subst he;simp only[RS.wf];exact⟨h1,h2⟩
 ·cases he
def eMkI(te:TE)(t:TypeId)(x:RS):Option RS:=gd (te.cc&&x.isV) (some (.ifc t x))
theorem Anq{t:TypeId}{te:TE}(ht:Gl P t te){x:RS}(he:eMkI te t x=some v)(hk:K (v.iv c)):aMkI P t (x.iv c) K:=by
 unfold eMkI at he;rw[Al,Bool.and_eq_true]at he;obtain⟨hf,he⟩:=he;injection he with he;subst he;refine⟨ht.cc.trans hf.1,?_⟩;rw[Ij hf.2];simpa only[RS.iv,RS.vv]using hk
def eTyA(te:TE)(u:TypeId)(x:RS):Option RS:=match x with
 | .ifc t y=>gd (te.cc&&y.isV&&Nat.beq t u) (some y)
 |_=>none
theorem Anz{u:TypeId}{te:TE}(ht:Gl P u te){x:RS}(he:eTyA te u x=some v)(hk:K (v.iv c)):aTyA P u (x.iv c) K:=by
 unfold eTyA at he;split at he
 ·rename_i t y
  rw[Al,Bool.and_eq_true,Bool.and_eq_true,A2]at he;obtain⟨⟨⟨h1,h2⟩,h3⟩,he⟩:=he;injection he with he;subst he;rw[Ij h2]at hk;simp only[RS.iv,RS.vv];exact⟨ht.cc.trans h1,h3,hk⟩
 ·cases he
def Sv:List (List RS)→Option (List UInt8)
 | []=>some []
 | [.v (.int .u8 (.ofNat m))]::l=>match Sv l with
  |some bs=>some (UInt8.ofNat m::bs)
  |none=>none
 |_=>none
theorem U5:∀{es:List (List RS)} {bs:List UInt8},Sv es=some bs→(RS.ivss c es).all Nr=true∧(RS.ivss c es).map Wy=bs
 | [],bs,he=>by simp only[Sv,Option.some.injEq]at he;subst he;exact⟨rfl,rfl⟩
 |e::l,bs,he=>by
  unfold Sv at he;split at he
  ·rename_i h;cases h
  ·rename_i m l' heq
   injection heq with h1 h2;subst h1;subst h2;split at he
   ·rename_i bs' hb
    injection he with he;subst he;obtain⟨g1,g2⟩:=U5 (es:=l) hb;simp only[RS.ivss,RS.ivs,RS.iv,RS.vv,List.all_cons,Nr,g1,Bool.and_self,List.map_cons,Wy,g2,Int.ofNat_eq_natCast,Int.toNat_natCast,and_self]
   ·cases he
  ·cases he
def Aja(q:Nat)(h:Sto):RS→Option (List (List RS))
 | .sl q' es=>gd (Nat.beq q' q) (some es)
 | .fsl q' es=>gd (Nat.beq q' q) (some es)
 | .v (.slice none 0 0)=>some []
 | .row b n=>match h.get b with
  | .rows q' es _=>gd (Nat.beq q' q&&Nat.ble n es.length) (some (es.take n))
  |_=>none
 |_=>none
theorem Ajb(hM:Mt σ0 c h σ){q:Nat}{x:RS}{es:List (List RS)}(hx:x.wf h.n)(he:Aja q h x=some es):P6 q σ (x.iv c)=some (RS.ivss c es):=by
 unfold Aja at he;split at he
 ·rw[Al,A2]at he;obtain⟨rfl,he⟩:=he;injection he with he;subst he;simp only[RS.iv,P6,if_true]
 ·rw[Al,A2]at he;obtain⟨rfl,he⟩:=he;injection he with he;subst he;simp only[RS.iv,P6,if_true]
 ·injection he with he;subst he;rfl
 ·rename_i b n
  split at he
  ·rename_i q' es' frz hb
   rw[Al,Bool.and_eq_true,A2,Bz]at he;obtain⟨⟨rfl,h1⟩,he⟩:=he;injection he with he;subst he;have hbn:b<h.n:=by simpa only[RS.wf]using hx
   have h2:=hM.ob b (.rows q' (RS.ivss c es') frz (c.k b)) hbn (by rw[hb];rfl);have hc:=hM.cap b hbn;rw[hb]at hc;simp only[SO.len]at hc;simp only[RS.iv,RS.vv,P6,h2,Bw,H2];rw[if_pos ⟨trivial,h1,by omega⟩]
  ·cases he
 ·cases he
def V2(b:UInt8):List RS:=[.v (.int .u8 (.ofNat b.toNat))]
theorem Aaw(l:List UInt8):RS.ivss c (l.map V2)=l.map Ib:=by
 rw[Cq,List.map_map];refine List.map_congr_left fun b _=>?_;simp only[Function.comp,V2,RS.ivs,RS.iv,RS.vv,Ib,Int.ofNat_eq_natCast]
theorem Aax(n:Nat)(l:List UInt8):RS.wfss n (l.map V2):=Dh.2 fun x hx=>by
 obtain⟨b,_,rfl⟩:=List.mem_map.1 hx;simp only[V2,RS.wfs,RS.wf,and_self]
def Ai0(i j:TK)(h:Sto)(x:RS):Option (RS×Sto):=match i.td,j.td with
 | .int _,.int ik=>match x with
  | .v (.int _ m)=>some (.v (.int ik (Jv ik m)),h)
  |_=>none
 | .str,.str=>match x with
  | .v (.string s)=>some (.v (.string s),h)
  |_=>none
 | .str,.sl 1 _ _ true=>match x with
  | .v (.string s)=>match h.new (.rows 1 (s.data.toList.map V2) false)with
   |some (b,h')=>some (.row b s.data.toList.length,h')
   |none=>none
  |_=>none
 | .sl 1 _ _ true,.str=>match Aja 1 h x with
  |some es=>match Sv es with
   |some bs=>some (.v (.string ⟨bs.toArray⟩),h)
   |none=>none
  |none=>none
 |_,_=>none
def Kt(σ0:St)(c:Cx)(h:Sto)(v:RS)(h':Sto)(k:AV→St→Prop):Prop:=
 ∀c' σ',Fp h.n c c'→Mt σ0 c' h' σ'→h.n≤h'.n→Ky h h'→v.wf h'.n→k (v.iv c') σ'
theorem Kt.same(hM:Mt σ0 c h σ)(hk:Kt σ0 c h v h k)(hv:v.wf h.n):k (v.iv c) σ:=hk c σ (.refl _ _) hM (Nat.le_refl _) (.refl h) hv
theorem Kt.new(hM:Mt σ0 c h σ){o:SO}{i:Nat}(hn:h.new o=some (i,h'))(hw:o.wf h.n){b kk:Nat}{x:Cj}(hb:σ b=none)(hx:io (c.more h.n b kk) h.n o=some x)(hc:o.len≤kk)
  (hk:Kt σ0 c h v h' k) (hv:v.wf (h.n+1)):k (v.iv (c.more h.n b kk)) (σ.set b x):=by
 obtain⟨h1,h2,h3⟩:=hM.new hb hn hx hw hc;exact hk _ _ (Io c h.n b kk) h3 (by omega) (.new hn) (by rw[h2];exact hv)
theorem Vw{o:SO}{i:Nat}(hn:h.new o=some (i,h')):i=h.n:=by
 unfold Sto.new at hn;rw[Al]at hn;have:=hn.2;injection this with this;injection this with h1 h2;exact h1.symm
theorem Ai1(hM:Mt σ0 c h σ){i j:TK}{x:RS}(hx:x.wf h.n)(he:Ai0 i j h x=some (v,h'))(hk:Kt σ0 c h v h' k):Ji (some i) (some j) σ (x.iv c) k:=by
 unfold Ai0 at he;simp only[Ji];split at he
 ·rename_i htd htd2
  split at he
  ·injection he with he
   injection he with h1 h2;subst h1;subst h2;have:=hk.same hM (by simp only[RS.wf]);rw[Dy]at this;simpa only[htd,htd2,RS.iv,RS.vv]using this
  ·cases he
 ·rename_i htd htd2
  split at he
  ·injection he with he
   injection he with h1 h2;subst h1;subst h2;have:=hk.same hM (by simp only[RS.wf]);simpa only[htd,htd2,RS.iv,RS.vv]using this
  ·cases he
 ·rename_i eby ez htd htd2
  split at he
  ·rename_i s
   split at he
   ·rename_i b h2 hn
    injection he with he;injection he with h1 h3;subst h1;subst h3;simp only[htd,htd2,RS.iv,RS.vv];intro bb cap hbb hcap;have hsz:s.data.toList.length=s.size:=Array.length_toList;have hi:=Vw hn;subst hi;have:=Kt.new (kk:=cap) hM hn (Aax _ _) hbb (x:=.rows 1 (s.data.toList.map Ib) false cap) (by simp only[io,Aaw,Cx.more,if_true]) (by simp only[SO.len,List.length_map];omega) hk (by simp only[RS.wf];omega);simp only[RS.iv,RS.vv,Cx.more,if_true,hsz]at this;exact this
   ·cases he
  ·cases he
 ·rename_i eby ez htd htd2
  split at he
  ·rename_i es hes
   split at he
   ·rename_i bs hbs
    injection he with he;injection he with h1 h3;subst h1;subst h3;have h4:=U5 (c:=c) hbs;have:=hk.same hM (by simp only[RS.wf]);simp only[htd,htd2];have h5:=Ajb hM hx hes;have h6:Ug (RS.ivss c es)=⟨bs.toArray⟩:=by unfold Ug;rw[h4.2]
    have key:∃es,P6 1 σ (x.iv c)=some es∧es.all Nr=true∧k (.v (.string (Ug es))) σ:=⟨_,h5,h4.1,by rw[h6];simpa only[RS.iv,RS.vv]using this⟩;generalize x.iv c=y at key;cases y<;>exact key
   ·cases he
  ·cases he
 ·cases he
def Ab4(i:TK)(h:Sto):Option (RS×Sto):=match h.new (.cells (i.zr.map .v))with
 |some (b,h')=>some (.ptr b 0,h')
 |none=>none
theorem Agv(hM:Mt σ0 c h σ){i:TK}(he:Ab4 i h=some (v,h'))(hk:Kt σ0 c h v h' k):K4 (some i) σ k:=by
 unfold Ab4 at he;split at he
 ·rename_i b h2 hn
  injection he with he;injection he with h1 h3;subst h1;subst h3;have hi:=Vw hn;subst hi;intro bb hbb;have:=Kt.new (kk:=0) hM hn (Uv _ _) hbb (x:=.cells (i.zr.map .v)) (by simp only[io,Tt]) (Nat.le_refl _) hk (by simp only[RS.wf];omega);simpa only[RS.iv,RS.vv,Cx.more,if_true]using this
 ·cases he
def eBox(x:RS)(h:Sto):Option (RS×Sto):=gd (x.cells.all RS.one) (match h.new (.cells x.cells)with
 |some (b,h')=>some (.ptr b 0,h')
 |none=>none)
theorem Ane(hM:Mt σ0 c h σ){x:RS}(hx:x.wf h.n)(he:eBox x h=some (v,h'))(hk:Kt σ0 c h v h' k):aBox (x.iv c) σ k:=by
 unfold eBox at he;rw[Al]at he;obtain⟨hone,he⟩:=he;split at he
 ·rename_i b h2 hn
  injection he with he;injection he with h1 h3;subst h1;subst h3;have hi:=Vw hn;subst hi;refine⟨by rw[Lb hM.a,Xu hM.a];exact hone,fun bb hbb=>?_⟩;have hw:=Ob hx;have:=Kt.new (kk:=0) hM hn hw hbb (x:=.cells (x.iv c).cells) (by simp only[io];rw[Fv (Io c h.n bb 0) _ hw,Lb hM.a]) (Nat.le_refl _) hk (by simp only[RS.wf];omega);simpa only[RS.iv,RS.vv,Cx.more,if_true]using this
 ·cases he
def Ajc(i:TK)(h:Sto)(l m:RS):Option (RS×Sto):=match i.td with
 | .sl q eby ez _=>match eNat l,eNat m with
  |some l,some m=>gd (Nat.beq l m&&Nat.blt 0 q&&Nat.blt 0 eby&&ez.all Value.oneCell'&&Nat.ble (eby*m) 281474976710656) (match h.new (.rows q (List.replicate l (ez.map .v)) false)with
   |some (b,h')=>some (.row b l,h')
   |none=>none)
  |_,_=>none
 |_=>none
theorem Ajd(hM:Mt σ0 c h σ){i:TK}{l m:RS}(he:Ajc i h l m=some (v,h'))(hk:Kt σ0 c h v h' k):N3 (some i) σ (l.iv c) (m.iv c) k:=by
 unfold Ajc at he;simp only[N3];split at he
 ·rename_i q eby ez byt htd
  simp only[htd];split at he
  ·rename_i l' m' hl hm
   obtain⟨ik,rfl⟩:=Of hl;obtain⟨ik',rfl⟩:=Of hm;rw[Al]at he;simp only[Bool.and_eq_true,A2,Bf,Bz]at he;obtain⟨⟨⟨⟨⟨rfl,h1⟩,h2⟩,h3⟩,h4⟩,he⟩:=he;split at he
   ·rename_i b h5 hn
    injection he with he;injection he with h6 h7;subst h6;subst h7;have hi:=Vw hn;subst hi;simp only[RS.iv,RS.vv]
    refine⟨h1,h2,h3,by omega,by omega,by have:((eby*l':Nat):Int)≤281474976710656:=by omega
                                         simpa using this,fun bb hbb=>?_⟩
    have:=Kt.new (kk:=l') hM hn (Abr _ _ _) hbb (x:=.rows q (List.replicate l' (ez.map .v)) false l') (by simp only[io,Aae,Cx.more,if_true]) (by simp[SO.len]) hk (by simp only[RS.wf];omega);simpa only[RS.iv,RS.vv,Cx.more,if_true,Int.toNat_natCast]using this
   ·cases he
  ·cases he
 ·cases he
def eSrc(q:Nat)(byt:Bool)(h:Sto):RS→Option (List (List RS))
 | .sl q' es=>gd (Nat.beq q' q) (some es)
 | .fsl q' es=>gd (Nat.beq q' q) (some es)
 | .v (.slice none 0 0)=>some []
 | .v (.string s)=>gd (byt&&Nat.beq q 1) (some (s.data.toList.map V2))
 | .row b n=>match h.get b with
  | .rows q' es _=>gd (Nat.beq q' q&&Nat.ble n es.length) (some (es.take n))
  |_=>none
 | .part b q1 l n=>match h.get b with
  | .rows q' es _=>gd (Nat.beq q' q&&Nat.beq q1 q&&Nat.blt 0 q&&Nat.ble (l+n) es.length) (some ((es.drop l).take n))
  |_=>none
 |_=>none
theorem Anv(hM:Mt σ0 c h σ){q:Nat}{byt:Bool}{x:RS}{es:List (List RS)}(hx:x.wf h.n)(he:eSrc q byt h x=some es):src q byt σ (x.iv c)=some (RS.ivss c es):=by
 unfold eSrc at he;split at he
 ·rw[Al,A2]at he;obtain⟨rfl,he⟩:=he;injection he with he;subst he;simp only[RS.iv,src,if_true]
 ·rw[Al,A2]at he;obtain⟨rfl,he⟩:=he;injection he with he;subst he;simp only[RS.iv,src,if_true]
 ·injection he with he;subst he;rfl
 ·rw[Al,Bool.and_eq_true,A2]at he
  obtain⟨⟨h1,h2⟩,he⟩:=he;injection he with he;subst he;simp only[RS.iv,RS.vv,src,Aaw];rw[if_pos ⟨h1,h2⟩]
 ·rename_i b n
  split at he
  ·rename_i q' es' frz hb
   rw[Al,Bool.and_eq_true,A2,Bz]at he;obtain⟨⟨rfl,h1⟩,he⟩:=he;injection he with he;subst he;have hbn:b<h.n:=by simpa only[RS.wf]using hx
   have h2:=hM.ob b (.rows q' (RS.ivss c es') frz (c.k b)) hbn (by rw[hb];rfl);simp only[RS.iv,RS.vv,src,h2,Bw,←H2,Nat.zero_mod,Nat.zero_div,Nat.zero_add,List.drop_zero];rw[if_pos ⟨trivial,trivial,h1⟩]
  ·cases he
 ·rename_i b q1 l n
  split at he
  ·rename_i q' es' frz hb
   simp only[Al,Bool.and_eq_true,A2,Bz,Bf]at he;obtain⟨⟨⟨⟨rfl,rfl⟩,hq⟩,h1⟩,he⟩:=he;injection he with he;subst he;have hbn:b<h.n:=by simpa only[RS.wf]using hx
   have h2:=hM.ob b (.rows q1 (RS.ivss c es') frz (c.k b)) hbn (by rw[hb];rfl);simp only[RS.iv,RS.vv,src,h2,Bw,←H2,←Mg,Nat.mul_mod_left,Nat.mul_div_cancel _ hq];rw[if_pos ⟨trivial,trivial,h1⟩]
  ·cases he
 ·cases he
theorem Anw(hS:WfS h){q:Nat}{byt:Bool}{x:RS}{es:List (List RS)}(hx:x.wf h.n)(he:eSrc q byt h x=some es):RS.wfss h.n es:=by
 unfold eSrc at he;split at he
 ·rw[Al]at he;have he:=he.2;injection he with he;subst he;simpa only[RS.wf]using hx
 ·rw[Al]at he;have he:=he.2;injection he with he;subst he;simpa only[RS.wf]using hx
 ·injection he with he;subst he;simp only[RS.wfss]
 ·rw[Al]at he;have he:=he.2;injection he with he;subst he;exact Aax _ _
 ·rename_i b n
  have hbn:b<h.n:=by simpa only[RS.wf]using hx
  have hw:=hS.ob b hbn;split at he
  ·rename_i q' es' frz hb
   rw[hb]at hw;rw[Al]at he;have he:=he.2;injection he with he;subst he;exact J9 _ hw
  ·cases he
 ·rename_i b q1 l n
  have hbn:b<h.n:=by simpa only[RS.wf]using hx
  have hw:=hS.ob b hbn;split at he
  ·rename_i q' es' frz hb
   rw[hb]at hw;rw[Al]at he;have he:=he.2;injection he with he;subst he;exact J9 _ (Mw _ hw)
  ·cases he
 ·cases he
end
section
variable{P:Program}{σ0 σ:St}{c c':Cx}{h h':Sto}{n:Nat}{fr:Tr RS}{v:RS}{K:AV→Prop}{k:AV→St→Prop}
def Og(q:Nat)(es:List (List RS))(frz:Bool)(h:Sto):Option (RS×Sto):=match h.new (.rows q es frz)with
 |some (b,h')=>some (.row b es.length,h')
 |none=>none
theorem Ni(hM:Mt σ0 c h σ){q:Nat}{es:List (List RS)}{frz:Bool}(hw:RS.wfss h.n es)(he:Og q es frz h=some (v,h'))(hk:Kt σ0 c h v h' k){bb cap:Nat}(hb:σ bb=none)(hc:es.length≤cap):
  k (.v (.slice (some ⟨bb,0,none⟩) es.length cap)) (σ.set bb (.rows q (RS.ivss c es) frz cap)):=by
 unfold Og at he;split at he
 ·rename_i b h2 hn
  injection he with he;injection he with h1 h3;subst h1;subst h3;have hi:=Vw hn;subst hi;have:=Kt.new (kk:=cap) hM hn hw hb (x:=.rows q (RS.ivss c es) frz cap) (by simp only[io];rw[Ik (Io c h.n bb cap) _ hw];simp only[Cx.more,if_true]) (by simp only[SO.len];exact hc) hk (by simp only[RS.wf];omega);simpa only[RS.iv,RS.vv,Cx.more,if_true]using this
 ·cases he
def Ab5(q eby:Nat)(ys:List (List RS))(h:Sto)(s:RS):Option (RS×Sto):=match s with
 | .v (.slice none 0 0)=>match ys with
  | []=>some (.v (.slice none 0 0),h)
  |y::l=>gd (Nat.ble ((y::l).length*eby) 140737488355328) (Og q (y::l) false h)
 | .fsl q' es=>gd (Nat.beq q' q) (match ys with
  | []=>some (.fsl q es,h)
  |y::l=>gd (Nat.ble ((es.length+(y::l).length)*eby) 140737488355328) (Og q (es++(y::l)) false h))
 | .row b n=>match h.get b with
  | .rows q' es frz=>gd (Nat.beq q' q&&Nat.ble ((n+ys.length)*eby) 140737488355328) (match Nat.beq n es.length with
   |true=>Og q (es++ys) frz (h.put b .gone)
   |false=>match frz with
    |true=>none
    |false=>gd (Nat.ble (n+ys.length) es.length) (some (.row b (n+ys.length),h.put b (.rows q (es.take n++ys++es.drop (n+ys.length)) false))))
  |_=>none
 |_=>none
theorem Kt.of_put(hM:Mt σ0 c h σ){b:Nat}{o:SO}{v:RS}{h2:Sto}(hb:b<h.n)(hl:∀fr ps a b' st pend pls,h.get b≠.loop fr ps a b' st pend pls)(hg:h.get b≠.gone)(hk:Kt σ0 c h v h2 k):Kt σ0 c (h.put b o) v h2 k:=
 fun c' σ' h1 h2' h3 h4 h5=>hk c' σ' h1 h2' h3 ((Ky.put hM.wf.lt hb (fun _ _ _ _ _ _ _ e=>absurd e (hl _ _ _ _ _ _ _)) (fun e=>absurd e hg)).trans h4 (Nat.le_refl _)) h5
theorem Agw(hM:Mt σ0 c h σ){q eby:Nat}{ys:List (List RS)}{s:RS}(hs:s.wf h.n)(hy:RS.wfss h.n ys)(he:Ab5 q eby ys h s=some (v,h'))(hk:Kt σ0 c h v h' k):F9 q eby (RS.ivss c ys) σ (s.iv c) k:=by
 unfold Ab5 at he;split at he
 ·simp only[RS.iv,RS.vv,F9]
  split at he
  ·injection he with he
   injection he with h1 h2;subst h1;subst h2;have:=hk.same hM (by simp only[RS.wf]);exact⟨fun _=>by simpa only[RS.iv,RS.vv]using this,fun h=>absurd rfl h⟩
  ·rename_i y l
   rw[Al,Bz]at he;refine⟨(fun h=>by simp only[RS.ivss]at h;cases h),fun _=>⟨by rw[Bw];exact he.1,fun b cap hb hc=>?_⟩⟩;rw[Bw]at hc⊢;exact Ni hM hy he.2 hk hb hc
 ·rename_i q' es
  rw[Al,A2]at he;obtain⟨rfl,he⟩:=he;simp only[RS.iv,F9];have hes:RS.wfss h.n es:=by simpa only[RS.wf]using hs
  split at he
  ·injection he with he
   injection he with h1 h2;subst h1;subst h2;have:=hk.same hM (by simpa only[RS.wf]using hes);exact⟨trivial,fun _=>by simpa only[RS.iv]using this,fun h=>absurd rfl h⟩
  ·rename_i y l
   rw[Al,Bz]at he;refine⟨trivial,(fun h=>by simp only[RS.ivss]at h;cases h),fun _=>⟨by rw[Bw,Bw];exact he.1,fun b cap hb hc=>?_⟩⟩;have:=Ni (bb:=b) (cap:=cap) hM (J8 hes hy) he.2 hk hb (by rw[List.length_append];rwa[Bw,Bw]at hc);rw[Ln,List.length_append]at this;rw[Bw,Bw];exact this
 ·rename_i b n
  have hb:b<h.n:=by simpa only[RS.wf]using hs
  split at he
  ·rename_i q' es frz hg
   rw[Al,Bool.and_eq_true,A2,Bz]at he;obtain⟨⟨rfl,hbd⟩,he⟩:=he;have hw:=hM.wf.ob b hb;have hcap:=hM.cap b hb;have hne:h.get b≠.gone:=by rw[hg];intro e;cases e
   have hob:=hM.ob b (.rows q' (RS.ivss c es) frz (c.k b)) hb (by rw[hg];rfl);rw[hg]at hw hcap;simp only[SO.len]at hcap;simp only[RS.iv,RS.vv,F9];split at he
   ·rename_i hn
    rw[A2]at hn;subst hn;refine .inr (.inl ⟨trivial,?_⟩);simp only[hob,Bw];refine⟨trivial,trivial,trivial,hbd,fun b' cap' hb' hc'=>?_⟩;have:=Ni (bb:=b') (cap:=cap') (hM.del hb hne) (J8 hw hy) he (Kt.of_put hM hb (by rw[hg];intro _ _ _ _ _ _ _ e;cases e) hne hk) hb' (by rw[List.length_append];exact hc');rw[Ln,List.length_append]at this;exact this
   ·split at he
    ·cases he
    ·rw[Al,Bz]at he
     obtain⟨hle,he⟩:=he;injection he with he;injection he with h1 h2;subst h1;subst h2;refine .inr (.inr (.inl ⟨trivial,?_⟩));simp only[hob,Bw];refine⟨trivial,by omega,trivial,by omega,hbd,?_⟩;have hl2:(es.take n++ys++es.drop (n+ys.length)).length=es.length:=by simp;omega
     have hM2:=hM.put (o:=.rows q' (es.take n++ys++es.drop (n+ys.length)) false) (x:=.rows q' ((RS.ivss c es).take n++RS.ivss c ys++(RS.ivss c es).drop (n+ys.length)) false (c.k b)) hb hne
      (by simp only[io,Ln,H2,Mg]) (J8 (J8 (J9 _ hw) hy) (Mw _ hw)) (by simp only[SO.len,hl2];exact hcap)
     have:=hk c _ (.refl _ _) hM2 (Nat.le_refl _) (.put hM.wf.lt hb (by rw[hg];intro _ _ _ _ _ _ _ e;cases e) (by rw[hg];intro e;cases e)) (by simp only[RS.wf];exact hb);simpa only[RS.iv,RS.vv]using this
  ·cases he
 ·cases he
def eApp(i:TK)(h:Sto)(s x:RS):Option (RS×Sto):=match i.td with
 | .sl q eby ez byt=>gd (Nat.blt 0 q&&Nat.blt 0 eby&&ez.all Value.oneCell') (match eSrc q byt h x with
  |some ys=>Ab5 q eby ys h s
  |none=>none)
 |_=>none
theorem Ana(hM:Mt σ0 c h σ){i:TK}{s x:RS}(hs:s.wf h.n)(hx:x.wf h.n)(he:eApp i h s x=some (v,h'))(hk:Kt σ0 c h v h' k):aApp (some i) σ (s.iv c) (x.iv c) k:=by
 unfold eApp at he;simp only[aApp];split at he
 ·rename_i q eby ez byt htd
  simp only[htd];rw[Al,Bool.and_eq_true,Bool.and_eq_true,Bf,Bf]at he;obtain⟨⟨⟨h1,h2⟩,h3⟩,he⟩:=he;split at he
  ·rename_i ys hys
   exact⟨h1,h2,h3,_,Anv hM hx hys,Agw hM hs (Anw hM.wf hx hys) he hk⟩
  ·cases he
 ·cases he
def eClr(q:Nat)(ez:List Value)(h:Sto)(b l n:Nat):Option (RS×Sto):=match h.get b with
 | .rows q' es false=>gd (Nat.beq q' q&&Nat.blt 0 q&&Nat.ble (l+n) es.length&&Nat.blt 0 n&&ez.all Value.oneCell') (some (.tup [],h.put b (.rows q (es.take l++List.replicate n (ez.map .v)++es.drop (l+n)) false)))
 |_=>none
def Ab8(i:TK)(h:Sto)(x:RS):Option (RS×Sto):=match i.td with
 | .sl q _ ez _=>match x with
  | .v (.slice none _ _)=>some (.tup [],h)
  | .row b n=>eClr q ez h b 0 n
  | .part b q1 l n=>gd (Nat.beq q1 q) (eClr q ez h b l n)
  |_=>none
 |_=>none
theorem Ahe(c:Cx)(n:Nat)(ez:List Value):RS.ivss c (List.replicate n (ez.map .v))=List.replicate n (ez.map AV.v):=by
 rw[Cq,List.map_replicate,Tt]
theorem Aet(hM:Mt σ0 c h σ){q b l n p cc:Nat}{ez:List Value}(hb:b<h.n)(hp:p=l*q)(he:eClr q ez h b l n=some (v,h'))(hk:Kt σ0 c h v h' k){ag byt:Bool}{sz eby:Nat}{zr:List Value}:
  aClear (some ⟨ag,sz,zr,.sl q eby ez byt⟩) σ (.v (.slice (some ⟨c.r b,p,none⟩) n cc)) k:=by
 unfold eClr at he;split at he
 ·rename_i q' es hg
  simp only[Al,Bool.and_eq_true,A2,Bf,Bz]at he;obtain⟨⟨⟨⟨⟨rfl,h1⟩,h2⟩,h3⟩,h4⟩,he⟩:=he;injection he with he;injection he with he1 he2;subst he1;subst he2;subst hp;have h5:io c b (h.get b)=some (.rows q' (RS.ivss c es) false (c.k b)):=by rw[hg];rfl
  have h6:=hM.ob b _ hb h5;have hw:=hM.wf.ob b hb;have hcap:=hM.cap b hb;rw[hg]at hw hcap;simp only[SO.len]at hcap;simp only[aClear];rw[if_neg (by omega)];simp only[h6,Nat.mul_div_cancel _ h1,Bw];refine⟨trivial,h1,Nat.mul_mod_left _ _,h2,h4,?_⟩;have e:RS.ivss c (es.take l++List.replicate n (ez.map .v)++es.drop (l+n))=(RS.ivss c es).take l++List.replicate n (ez.map AV.v)++(RS.ivss c es).drop (l+n):=by
   rw[Ln,Ln,H2,Mg,Ahe]
  have hz:RS.wfss h.n (List.replicate n (ez.map RS.v)):=Dh.2 fun x hx=>by
   rw[(List.mem_replicate.1 hx).2];exact Uv _ _
  have hM':Mt σ0 c (h.put b (.rows q' (es.take l++List.replicate n (ez.map .v)++es.drop (l+n)) false)) (σ.set (c.r b) (.rows q' ((RS.ivss c es).take l++List.replicate n (ez.map AV.v)++(RS.ivss c es).drop (l+n)) false (c.k b))):=
   hM.put hb (by rw[hg];intro e;cases e) (by simp only[io,e]) (J8 (J8 (J9 _ hw) hz) (Mw _ hw)) (by simp only[SO.len,List.length_append,List.length_take,List.length_replicate,List.length_drop];omega)
  have:=hk c _ (.refl _ _) hM' (Nat.le_refl _) (.put hM.wf.lt hb (by rw[hg];intro _ _ _ _ _ _ _ e;cases e) (by rw[hg];intro e;cases e)) (by simp only[RS.wf,RS.wfs]);simpa only[RS.iv,RS.ivs]using this
 ·cases he
theorem Agz(hM:Mt σ0 c h σ){i:TK}{x:RS}(hx:x.wf h.n)(he:Ab8 i h x=some (v,h'))(hk:Kt σ0 c h v h' k):aClear (some i) σ (x.iv c) k:=by
 obtain⟨ag,sz,zr,td⟩:=i;unfold Ab8 at he;simp only at he;split at he
 ·split at he
  ·injection he with he
   injection he with he1 he2;subst he1;subst he2;have:=hk c _ (.refl _ _) hM (Nat.le_refl _) (.refl h) (by simp only[RS.wf,RS.wfs]);simpa only[RS.iv,RS.vv,RS.ivs,aClear]using this
  ·rename_i b n
   simp only[RS.wf]at hx;simp only[RS.iv,RS.vv];exact Aet hM hx (p:=0) (by omega) he hk
  ·rename_i b q1 l n
   simp only[RS.wf]at hx;rw[Al,A2]at he;obtain⟨rfl,he⟩:=he;simp only[RS.iv,RS.vv];exact Aet hM hx rfl he hk
  ·cases he
 ·cases he
structure En where
 ty:Tr TE
 cl:FuncId→List RS→Sto→Option (RS×Sto)
 yl:Nat→List RS→Sto→Option (RS×Sto)
 idle:FuncId→Bool
def En.te(E:En)(t:TypeId):Option TE:=gd (Nat.blt t 1024) (E.ty.get 10 t)
structure P8(P:Program)(E:En):Prop where
 ty:∀t e,E.te t=some e→Gl P t e
 cl:∀(f:FuncId) (as:List RS) (h:Sto) (v:RS) (h':Sto),E.cl f as h=some (v,h')→∀σ0 c σ k,Mt σ0 c h σ→RS.wfs h.n as→Kt σ0 c h v h' k→AT P f (RS.ivs c as) σ k
 yl:∀(l:Nat) (as:List RS) (h:Sto) (v:RS) (h':Sto),E.yl l as h=some (v,h')→∀σ0 c σ k,Mt σ0 c h σ→RS.wfs h.n as→l<h.n→Kt σ0 c h v h' k→YC P (c.r l) (RS.ivs c as) σ k
 idle:∀f,E.idle f=true→(∃fn,P.funcs[f]? =some fn∧fn.body.isSome=true∧fn.name≠ "runtime.NumGoroutine")∧∀vs,Yr P f vs
def oOpd(fr:Tr RS):Option Operand→Option (Option RS)
 |none=>some none
 |some x=>match eEv fr x with
  |some v=>some (some v)
  |none=>none
def Ez(h:Sto):Option RS→Option (RS×Sto)
 |some v=>some (v,h)
 |none=>none
def Aiy(E:En)(c:Call)(fr:Tr RS)(h:Sto):Option (RS×Sto):=match Ta fr c.args.toList with
 |none=>none
 |some as=>match c.callee with
  | .value (.func f)=>E.cl f as h
  | .value (.tmp t)=>match eEv fr (.tmp t)with
   |some (.fn f fi ca)=>gd (fi.all RS.isV&&ca.all RS.isV) (E.cl f (fi++as++ca) h)
   |some (.yld l)=>E.yl l as h
   |_=>none
  | .builtin .len=>match as,c.argTypes.toList with
   | [x],[t]=>match E.te t with
    |some te=>Ez h (eLen te.k x)
    |none=>none
   |_,_=>none
  | .builtin .append=>match as,c.argTypes.toList with
   | [s,x],[t1,t2]=>match E.te t1,E.te t2 with
    |some e1,some e2=>match Nu (some e2.k)with
     |true=>eApp e1.k h s x
     |false=>none
    |_,_=>none
   |_,_=>none
  | .builtin .clear=>match as,c.argTypes.toList with
   | [x],[t]=>match E.te t with
    |some te=>Ab8 te.k h x
    |none=>none
   |_,_=>none
  |_=>none
def eOp(E:En)(o:Op)(fr:Tr RS)(h:Sto):Option (RS×Sto):=match o with
 | .move x=>Ez h (eEv fr x)
 | .assign x=>Ez h (eEv fr x)
 | .pick c x y=>match eEv fr c,eEv fr x,eEv fr y with
  |some c,some x,some y=>Ez h (Zr c x y)
  |_,_,_=>none
 | .alloc t=>match E.te t with
  |some te=>Ab4 te.k h
  |none=>none
 | .box _ x=>match eEv fr x with
  |some x=>eBox x h
  |none=>none
 | .build t ps=>match E.te t,eEvp fr ps.toList with
  |some te,some vs=>Ez h (S9 te.k vs)
  |_,_=>none
 | .buildSlice t n ps=>match E.te t,eEvp fr ps.toList with
  |some te,some vs=>Ez h (Oc te.k n vs)
  |_,_=>none
 | .load t x=>match E.te t,eEv fr x with
  |some te,some x=>Ez h (Oe te.k h x)
  |_,_=>none
 | .store t x y=>match E.te t,eEv fr x,eEv fr y with
  |some te,some x,some y=>match Aca te.k h x y with
   |some h'=>some (.v undef,h')
   |none=>none
  |_,_,_=>none
 | .nilCheck x=>match eEv fr x with
  |some x=>Ez h (eNil x)
  |none=>none
 | .binOp op t x y _=>match E.te t,eEv fr x,eEv fr y with
  |some te,some x,some y=>Ez h (eBin op te x y)
  |_,_,_=>none
 | .unOp op _ x=>match eEv fr x with
  |some x=>Ez h (eUn op x)
  |none=>none
 | .convert s d x=>match E.te s,E.te d,eEv fr x with
  |some i,some j,some x=>Ai0 i.k j.k h x
  |_,_,_=>none
 | .makeFunc fn fi ca=>match Ta fr fi.toList,Ta fr ca.toList with
  |some fi,some ca=>Ez h (Zo fn fi ca)
  |_,_=>none
 | .slice t x lo hi mx=>match E.te t,eEv fr x,oOpd fr lo,oOpd fr hi,oOpd fr mx with
  |some te,some x,some lo,some hi,some mx=>Ez h (eSli te.k h x lo hi mx)
  |_,_,_,_,_=>none
 | .fieldAddr s x f=>match E.te s,eEv fr x with
  |some te,some x=>Ez h (Zn te.k f x)
  |_,_=>none
 | .field s x f=>match E.te s,eEv fr x with
  |some te,some x=>Ez h (eFld te.k f x)
  |_,_=>none
 | .indexAddr t x ix=>match E.te t,eEv fr x,eEv fr ix with
  |some te,some x,some ix=>Ez h (Zp te.k x ix)
  |_,_,_=>none
 | .index t x ix=>match E.te t,eEv fr x,eEv fr ix with
  |some te,some x,some ix=>Ez h (eIdx te.k x ix)
  |_,_,_=>none
 | .extract x j=>match eEv fr x with
  |some x=>Ez h (eExt x j)
  |none=>none
 | .call c=>Aiy E c fr h
 | .makeSlice t l m=>match E.te t,eEv fr l,eEv fr m with
  |some te,some l,some m=>Ajc te.k h l m
  |_,_,_=>none
 | .makeInterface t x=>match E.te t,eEv fr x with
  |some te,some x=>Ez h (eMkI te t x)
  |_,_=>none
 | .typeAssert x _ u false=>match E.te u,eEv fr x with
  |some te,some x=>Ez h (eTyA te u x)
  |_,_=>none
 | .defer c=>match c.callee,c.args.toList with
  | .value (.tmp t),[]=>match eEv fr (.tmp t)with
   |some (.fn f _ _)=>gd (E.idle f) (some (.v undef,h))
   |_=>none
  |_,_=>none
 |_=>none
theorem Bm{x:Option RS}(he:Ez h x=some (v,h')):x=some v∧h'=h:=by
 cases x with
 |none=>cases he
 |some y=>simp only[Ez,Option.some.injEq,Prod.mk.injEq]at he;exact⟨by rw[he.1],he.2.symm⟩
theorem Xr{x:Option Operand}{y:Option RS}(he:oOpd fr x=some y):x.map (ifr c fr).ev=y.map (RS.iv c):=by
 cases x with
 |none=>simp only[oOpd,Option.some.injEq]at he;subst he;rfl
 |some x=>
  simp only[oOpd]at he;split at he
  ·rename_i v hv
   injection he with he;subst he;simp only[Option.map_some,Bj hv]
  ·cases he
theorem Aiz{E:En}(hE:P8 P E)(hM:Mt σ0 c h σ)(hf:wfr h.n fr){cc:Call}(he:Aiy E cc fr h=some (v,h'))(hk:Kt σ0 c h v h' k):Fe P cc (ifr c fr) σ k:=by
 obtain⟨callee,args,ts⟩:=cc;unfold Aiy at he;simp only at he;split at he
 ·cases he
 ·rename_i as has
  have hav:args.toList.map (ifr c fr).ev=RS.ivs c as:=by rw[R1 has,Dl]
  have haw:=R2 hf has;split at he
  ·simp only[Fe]
   rw[hav];exact hE.cl _ _ _ _ _ he σ0 c σ k hM haw hk
  ·rename_i t
   simp only[Fe];rw[hav];split at he
   ·rename_i f fi ca hx
    have h1:=Bj (c:=c) hx;have h2:=Ck hf hx;simp only[RS.wf]at h2;rw[Al,Bool.and_eq_true]at he;have:=hE.cl _ _ _ _ _ he.2 σ0 c σ k hM (Mv (Mv h2.1 haw) h2.2) hk;simp only[Fr.ev,RS.iv,RS.vv]at h1;rw[h1];have e:∀l:List RS,l.all RS.isV=true→(RS.vvs c l).map AV.v=RS.ivs c l:=fun l hl=>by
     rw[Yo,Dl,List.map_map];exact List.map_congr_left fun x hx=>(Ij (List.all_eq_true.1 hl x hx)).symm
    simp only[Ka,e fi he.1.1,e ca he.1.2,←Oy];exact this
   ·rename_i l hx
    have h1:=Bj (c:=c) hx;have h2:=Ck hf hx;simp only[RS.wf]at h2;simp only[Fr.ev,RS.iv,RS.vv]at h1;rw[h1];exact⟨rfl,rfl,hE.yl _ _ _ _ _ he σ0 c σ k hM haw h2 hk⟩
   ·cases he
  ·split at he
   ·rename_i x t hts
    split at he
    ·rename_i te hte
     obtain⟨hq,rfl⟩:=Bm he
     replace he:=hq
     obtain⟨x1,hx1⟩:∃x1,args.toList=[x1]:=by
      match hl:args.toList,has with
      | [x1],_=>exact⟨x1,rfl⟩
      | [],has=>simp[Ta]at has
      |a::b::l,has=>
       have:=congrArg List.length hav;rw[hl,List.length_map,Dd]at this;simp at this
     rw[hx1]at hav;simp only[List.map_cons,List.map_nil,RS.ivs,List.cons.injEq,and_true]at hav;simp only[Fe,hx1,hts,(hE.ty _ _ hte).k,hav];exact Ano he (hk.same hM (Anp he))
    ·cases he
   ·cases he
  ·split at he
   ·rename_i s x t1 t2 hts
    split at he
    ·rename_i e1 e2 ht1 ht2
     split at he
     ·rename_i hni
      obtain⟨x1,x2,hx1⟩:∃x1 x2,args.toList=[x1,x2]:=by
       have:=congrArg List.length hav;rw[List.length_map,Dd]at this
       match hl:args.toList with
       | [x1,x2]=>exact⟨x1,x2,rfl⟩
       | []=>rw[hl]at this;simp at this
       | [_]=>rw[hl]at this;simp at this
       |_::_::_::_=>rw[hl]at this;simp at this
      rw[hx1]at hav;simp only[List.map_cons,List.map_nil,RS.ivs,List.cons.injEq,and_true]at hav;simp only[RS.wfs,and_true]at haw;simp only[Fe,hx1,hts,(hE.ty _ _ ht1).k,(hE.ty _ _ ht2).k,hav.1,hav.2];rw[if_pos hni];exact Ana hM haw.1 haw.2 he hk
     ·cases he
    ·cases he
   ·cases he
  ·split at he
   ·rename_i x t hts
    split at he
    ·rename_i te hte
     obtain⟨x1,hx1⟩:∃x1,args.toList=[x1]:=by
      have:=congrArg List.length hav;rw[List.length_map,Dd]at this
      match hl:args.toList with
      | [x1]=>exact⟨x1,rfl⟩
      | []=>rw[hl]at this;simp at this
      |_::_::_=>rw[hl]at this;simp at this
     rw[hx1]at hav;simp only[List.map_cons,List.map_nil,RS.ivs,List.cons.injEq,and_true]at hav;simp only[RS.wfs,and_true]at haw;simp only[Fe,aBI,hx1,hts,List.map_cons,List.map_nil,(hE.ty _ _ hte).k,hav];exact Agz hM haw he hk
    ·cases he
   ·cases he
  ·cases he
theorem W8{E:En}(hE:P8 P E)(hM:Mt σ0 c h σ)(hf:wfr h.n fr){o:Op}(he:eOp E o fr h=some (v,h'))(hk:Kt σ0 c h v h' k):aOp P o (ifr c fr) σ k:=by
 cases o with
 |move x=>
  obtain⟨hq,rfl⟩:=Bm he
  replace he:=hq
  simp only[aOp,Bj he];exact hk.same hM (Ck hf he)
 |assign x=>
  obtain⟨hq,rfl⟩:=Bm he
  replace he:=hq
  simp only[aOp,Bj he];exact hk.same hM (Ck hf he)
 |pick p x y=>
  simp only[eOp]at he;split at he
  ·rename_i p' x' y' h1 h2 h3
   obtain⟨hq,rfl⟩:=Bm he
   replace he:=hq
   simp only[aOp,Bj h1,Bj h2,Bj h3];exact Aje he (hk.same hM (Ajf (Ck hf h2) (Ck hf h3) he))
  ·cases he
 |alloc t=>
  simp only[eOp]at he;split at he
  ·rename_i te hte
   simp only[aOp,(hE.ty _ _ hte).k];exact Agv hM he hk
  ·cases he
 |box t x=>
  simp only[eOp]at he;split at he
  ·rename_i x' h1
   simp only[aOp,Bj h1];exact Ane hM (Ck hf h1) he hk
  ·cases he
 |build t ps=>
  simp only[eOp]at he;split at he
  ·rename_i te vs hte h1
   obtain⟨hq,rfl⟩:=Bm he
   replace he:=hq
   simp only[aOp,(hE.ty _ _ hte).k,W6 h1];exact Agx hM.a he (hk.same hM (Agy (W7 hf h1) he))
  ·cases he
 |buildSlice t m ps=>
  simp only[eOp]at he;split at he
  ·rename_i te vs hte h1
   obtain⟨hq,rfl⟩:=Bm he
   replace he:=hq
   simp only[aOp,(hE.ty _ _ hte).k,W6 h1];exact Ab6 hM.a he (hk.same hM (Ab7 (W7 hf h1) he))
  ·cases he
 |load t x=>
  simp only[eOp]at he;split at he
  ·rename_i te x' hte h1
   obtain⟨hq,rfl⟩:=Bm he
   replace he:=hq
   simp only[aOp,(hE.ty _ _ hte).k,Bj h1];exact Ai8 hM (Ck hf h1) he (hk.same hM (Ai9 hM.wf (Ck hf h1) he))
  ·cases he
 |store t x y=>
  simp only[eOp]at he;split at he
  ·rename_i te x' y' hte h1 h2
   split at he
   ·rename_i h2' hst
    injection he with he;injection he with h3 h4;subst h3;subst h4;simp only[aOp,(hE.ty _ _ hte).k,Bj h1,Bj h2];refine Ag1 hM (Ck hf h1) (Ck hf h2) hst fun σ' hn hkp hM'=>?_;have:=hk c σ' (.refl _ _) hM' (by omega) hkp (by simp only[RS.wf]);simpa only[RS.iv,RS.vv]using this
   ·cases he
  ·cases he
 |nilCheck x=>
  simp only[eOp]at he;split at he
  ·rename_i x' h1
   obtain⟨hq,rfl⟩:=Bm he
   replace he:=hq
   simp only[aOp,Bj h1];exact Anr he (hk.same hM (Ans (Ck hf h1) he))
  ·cases he
 |binOp op t x y ty=>
  simp only[eOp]at he;split at he
  ·rename_i te x' y' hte h1 h2
   obtain⟨hq,rfl⟩:=Bm he
   replace he:=hq
   simp only[aOp,Bj h1,Bj h2];exact Anb (hE.ty _ _ hte) he (hk.same hM (Anc he))
  ·cases he
 |unOp op t x=>
  simp only[eOp]at he;split at he
  ·rename_i x' h1
   obtain⟨hq,rfl⟩:=Bm he
   replace he:=hq
   simp only[aOp,Bj h1];exact Ar2 he (hk.same hM (Ar3 he))
  ·cases he
 |convert s d x=>
  simp only[eOp]at he;split at he
  ·rename_i i j x' hi hj h1
   simp only[aOp,(hE.ty _ _ hi).k,(hE.ty _ _ hj).k,Bj h1];exact Ai1 hM (Ck hf h1) he hk
  ·cases he
 |makeFunc fn fi ca=>
  simp only[eOp]at he;split at he
  ·rename_i fi' ca' h1 h2
   obtain⟨hq,rfl⟩:=Bm he
   replace he:=hq
   simp only[aOp];exact Ai4 (R1 h1) (R1 h2) he (hk.same hM (Ai5 (R2 hf h1) (R2 hf h2) he))
  ·cases he
 |slice t x lo hi mx=>
  simp only[eOp]at he;split at he
  ·rename_i te x' lo' hi' mx' hte h1 h2 h3 h4
   obtain⟨hq,rfl⟩:=Bm he
   replace he:=hq
   simp only[aOp,(hE.ty _ _ hte).k,Bj h1,Xr h2,Xr h3,Xr h4];exact Ant hM (Ck hf h1) he (hk.same hM (Anu (Ck hf h1) he))
  ·cases he
 |fieldAddr s x f=>
  simp only[eOp]at he;split at he
  ·rename_i te x' hte h1
   obtain⟨hq,rfl⟩:=Bm he
   replace he:=hq
   simp only[aOp,(hE.ty _ _ hte).k,Bj h1];exact Ai2 he (hk.same hM (Ai3 (Ck hf h1) he))
  ·cases he
 |field s x f=>
  simp only[eOp]at he;split at he
  ·rename_i te x' hte h1
   obtain⟨hq,rfl⟩:=Bm he
   replace he:=hq
   simp only[aOp,(hE.ty _ _ hte).k,Bj h1];exact Ani he (hk.same hM (Anj (Ck hf h1) he))
  ·cases he
 |indexAddr t x ix=>
  simp only[eOp]at he;split at he
  ·rename_i te x' y' hte h1 h2
   obtain⟨hq,rfl⟩:=Bm he
   replace he:=hq
   simp only[aOp,(hE.ty _ _ hte).k,Bj h1,Bj h2];exact Ai6 he (hk.same hM (Ai7 (Ck hf h1) he))
  ·cases he
 |index t x ix=>
  simp only[eOp]at he;split at he
  ·rename_i te x' y' hte h1 h2
   obtain⟨hq,rfl⟩:=Bm he
   replace he:=hq
   simp only[aOp,(hE.ty _ _ hte).k,Bj h1,Bj h2];exact Anl he (hk.same hM (Anm (Ck hf h1) he))
  ·cases he
 |extract x j=>
  simp only[eOp]at he;split at he
  ·rename_i x' h1
   obtain⟨hq,rfl⟩:=Bm he
   replace he:=hq
   simp only[aOp,Bj h1];exact Ang he (hk.same hM (Anh (Ck hf h1) he))
  ·cases he
 |call cc=>exact Aiz hE hM hf he hk
 |makeSlice t l m=>
  simp only[eOp]at he;split at he
  ·rename_i te x' y' hte h1 h2
   simp only[aOp,Dv,(hE.ty _ _ hte).k,Bj h1,Bj h2];exact Ajd hM he hk
  ·cases he
 |makeInterface t x=>
  simp only[eOp]at he;split at he
  ·rename_i te x' hte h1
   obtain⟨hq,rfl⟩:=Bm he
   replace he:=hq
   simp only[aOp,Dv,Bj h1];refine Anq (hE.ty _ _ hte) he (hk.same hM ?_);unfold eMkI at he;rw[Al]at he;have h2:=he.2;injection h2 with h2;subst h2;simpa only[RS.wf]using Ck hf h1
  ·cases he
 |typeAssert x t u ok=>
  cases ok with
  |true=>cases he
  |false=>
   simp only[eOp]at he;split at he
   ·rename_i te x' hte h1
    obtain⟨hq,rfl⟩:=Bm he
    replace he:=hq
    simp only[aOp,Dv,Bj h1];refine Anz (hE.ty _ _ hte) he (hk.same hM ?_);have hw:=Ck hf h1;unfold eTyA at he;split at he
    ·rw[Al]at he
     have h2:=he.2;injection h2 with h2;subst h2;simpa only[RS.wf]using hw
    ·cases he
   ·cases he
 |defer cc=>
  obtain⟨callee,args,ts⟩:=cc;simp only[eOp]at he;split at he
  ·rename_i t ha
   split at he
   ·rename_i f fi ca h1
    rw[Al]at he;obtain⟨hi,he⟩:=he;injection he with he;injection he with h3 h4;subst h3;subst h4;have h5:=Bj (c:=c) h1;simp only[Fr.ev,RS.iv,RS.vv]at h5;simp only[aOp,Dv,Qa,ha,h5];have h6:=hE.idle f hi;have:=hk.same hM (by simp only[RS.wf]);exact⟨h6.1,h6.2 _,by simpa only[RS.iv,RS.vv]using this⟩
   ·cases he
  ·cases he
 |_=>cases he
end
def Ama:Value→Value→Bool
 | .int k x,.int k' y=>decide (k=k')&&ieq x y
 | .bool a,.bool b=>match a with
  |true=>b
  |false=>!b
 | .string x,.string y=>Rs x.data.toList y.data.toList
 | .pointer none,.pointer none=>true
 | .slice none 0 0,.slice none 0 0=>true
 | .nilFunc,.nilFunc=>true
 | .nilIface,.nilIface=>true
 | .map none,.map none=>true
 |_,_=>false
theorem Amb{x y:Value}(h:Ama x y=true):x=y:=by
 unfold Ama at h;split at h
 ·rw[Bool.and_eq_true,Qu]at h
  rw[of_decide_eq_true h.1,of_decide_eq_true h.2]
 ·rename_i a b;cases a<;>cases b<;>first|rfl|cases h
 ·rw[Sq,←Ad6]at h;rw[h]
 ·rfl
 ·rfl
 ·rfl
 ·rfl
 ·rfl
 ·cases h
mutual
def RS.beq:RS→RS→Bool
 | .v x,.v y=>Ama x y
 | .opq i,.opq j=>Nat.beq i j
 | .ptr i o,.ptr j p=>Nat.beq i j&&Nat.beq o p
 | .rp i k j f,.rp i' k' j' f'=>Nat.beq i i'&&Nat.beq k k'&&Nat.beq j j'&&Nat.beq f f'
 | .row i n,.row j m=>Nat.beq i j&&Nat.beq n m
 | .part i q l n,.part i' q' l' n'=>Nat.beq i i'&&Nat.beq q q'&&Nat.beq l l'&&Nat.beq n n'
 | .sl k es,.sl k' es'=>Nat.beq k k'&&RS.beqss es es'
 | .fsl k es,.fsl k' es'=>Nat.beq k k'&&RS.beqss es es'
 | .fp cs,.fp cs'=>RS.beqs cs cs'
 | .agg cs,.agg cs'=>RS.beqs cs cs'
 | .tup cs,.tup cs'=>RS.beqs cs cs'
 | .fn f a b,.fn f' a' b'=>Nat.beq f f'&&RS.beqs a a'&&RS.beqs b b'
 | .yld l,.yld l'=>Nat.beq l l'
 | .ifc t x,.ifc t' x'=>Nat.beq t t'&&RS.beq x x'
 | .mp i,.mp j=>Nat.beq i j
 |_,_=>false
def RS.beqs:List RS→List RS→Bool
 | [],[]=>true
 |x::l,y::m=>RS.beq x y&&RS.beqs l m
 |_,_=>false
def RS.beqss:List (List RS)→List (List RS)→Bool
 | [],[]=>true
 |x::l,y::m=>RS.beqs x y&&RS.beqss l m
 |_,_=>false
end
mutual
theorem Xz:∀{x y:RS},RS.beq x y=true→x=y
 | .v x,y,h=>by cases y<;>simp only[RS.beq,Bool.false_eq_true]at h;rw[Amb h]
 | .opq i,y,h=>by cases y<;>simp only[RS.beq,Bool.false_eq_true,A2]at h;rw[h]
 | .ptr i o,y,h=>by cases y<;>simp only[RS.beq,Bool.false_eq_true,Bool.and_eq_true,A2]at h;rw[h.1,h.2]
 | .rp i k j f,y,h=>by cases y<;>simp only[RS.beq,Bool.false_eq_true,Bool.and_eq_true,A2]at h;rw[h.1.1.1,h.1.1.2,h.1.2,h.2]
 | .row i n,y,h=>by cases y<;>simp only[RS.beq,Bool.false_eq_true,Bool.and_eq_true,A2]at h;rw[h.1,h.2]
 | .part i q l n,y,h=>by cases y<;>simp only[RS.beq,Bool.false_eq_true,Bool.and_eq_true,A2]at h;rw[h.1.1.1,h.1.1.2,h.1.2,h.2]
 | .mt i p q,y,h=>by cases y<;>simp only[RS.beq,Bool.false_eq_true]at h
 | .sl k es,y,h=>by cases y<;>simp only[RS.beq,Bool.false_eq_true,Bool.and_eq_true,A2]at h;rw[h.1,Q0 h.2]
 | .fsl k es,y,h=>by cases y<;>simp only[RS.beq,Bool.false_eq_true,Bool.and_eq_true,A2]at h;rw[h.1,Q0 h.2]
 | .fp cs,y,h=>by cases y<;>simp only[RS.beq,Bool.false_eq_true]at h;rw[It h]
 | .agg cs,y,h=>by cases y<;>simp only[RS.beq,Bool.false_eq_true]at h;rw[It h]
 | .tup cs,y,h=>by cases y<;>simp only[RS.beq,Bool.false_eq_true]at h;rw[It h]
 | .fn f a b,y,h=>by cases y<;>simp only[RS.beq,Bool.false_eq_true,Bool.and_eq_true,A2]at h;rw[h.1.1,It h.1.2,It h.2]
 | .yld l,y,h=>by cases y<;>simp only[RS.beq,Bool.false_eq_true,A2]at h;rw[h]
 | .ifc t x,y,h=>by cases y<;>simp only[RS.beq,Bool.false_eq_true,Bool.and_eq_true,A2]at h;rw[h.1,Xz h.2]
 | .mp i,y,h=>by cases y<;>simp only[RS.beq,Bool.false_eq_true,A2]at h;rw[h]
theorem It:∀{x y:List RS},RS.beqs x y=true→x=y
 | [],y,h=>by cases y<;>simp only[RS.beqs,Bool.false_eq_true]at h;rfl
 |x::l,y,h=>by cases y<;>simp only[RS.beqs,Bool.false_eq_true,Bool.and_eq_true]at h;rw[Xz h.1,It h.2]
theorem Q0:∀{x y:List (List RS)},RS.beqss x y=true→x=y
 | [],y,h=>by cases y<;>simp only[RS.beqss,Bool.false_eq_true]at h;rfl
 |x::l,y,h=>by cases y<;>simp only[RS.beqss,Bool.false_eq_true,Bool.and_eq_true]at h;rw[It h.1,Q0 h.2]
end
section
variable{P:Program}{σ0 σ:St}{c c':Cx}{h h':Sto}{n:Nat}{fr fr':Tr RS}{v:RS}
def Oi(fr:Tr RS)(d:Option Nat)(v:RS):Option (Tr RS):=match d with
 |some t=>gd (Nat.blt t 1024) (some (fr.set 10 t v))
 |none=>some fr
theorem Kj{d:Option Nat}(he:Oi fr d v=some fr'):ifr c fr'=(ifr c fr).put d (v.iv c):=by
 cases d with
 |none=>simp only[Oi,Option.some.injEq]at he;subst he;rfl
 |some t=>
  simp only[Oi,Al,Bf,Option.some.injEq]at he;obtain⟨ht,rfl⟩:=he;funext x;simp only[Fr.put,Fr.up,ifr];by_cases hx:x<1024
  ·rw[if_pos hx,if_pos hx,Tr.get_set 10 _ _ _ _ (by simpa using ht) (by simpa using hx)]
   by_cases e:x=t
   ·rw[if_pos e,if_pos e]
   ·rw[if_neg e,if_neg e]
  ·rw[if_neg hx,if_neg hx,if_neg (by omega)]
theorem Kk{d:Option Nat}(hf:wfr n fr)(hv:v.wf n)(he:Oi fr d v=some fr'):wfr n fr':=by
 cases d with
 |none=>simp only[Oi,Option.some.injEq]at he;subst he;exact hf
 |some t=>
  simp only[Oi,Al,Bf,Option.some.injEq]at he;obtain⟨ht,rfl⟩:=he;intro x w hx hw;rw[Tr.get_set 10 _ _ _ _ (by simpa using ht) (by simpa using hx)]at hw;split at hw
  ·injection hw with hw;subst hw;exact hv
  ·exact hf x w hx hw
def eGd(ds:List (Option Nat))(fr:Tr RS):Option (Nat×Bool)→Option Bool
 |none=>some true
 |some (j,want)=>match ds.getD j none with
  |some d=>match eEv fr (.tmp d)with
   |some (.v (.bool true))=>some want
   |some (.v (.bool false))=>some (!want)
   |some (.v (.tuple _))=>some false
   |_=>none
  |none=>none
theorem Qj{ds:List (Option Nat)}{g:Option (Nat×Bool)}{A B:Prop}{b:Bool}(he:eGd ds fr g=some b)(hA:b=true→A)(hB:b=false→B):aGd ds (ifr c fr) g A B:=by
 cases g with
 |none=>simp only[eGd,Option.some.injEq]at he;subst he;exact hA rfl
 |some g=>
  obtain⟨j,want⟩:=g;simp only[eGd]at he;simp only[aGd];split at he
  ·rename_i d hd
   simp only[hd];split at he
   ·rename_i hx
    have:=Bj (c:=c) hx;simp only[Fr.ev,RS.iv,RS.vv]at this;injection he with he;subst he;rw[this];cases want with
    |true=>exact hA rfl
    |false=>exact hB rfl
   ·rename_i hx
    have:=Bj (c:=c) hx;simp only[Fr.ev,RS.iv,RS.vv]at this;injection he with he;subst he;rw[this];cases want with
    |true=>exact hB rfl
    |false=>exact hA rfl
   ·rename_i hx
    have:=Bj (c:=c) hx;simp only[Fr.ev,RS.iv,RS.vv]at this;injection he with he;subst he;rw[this];exact hB rfl
   ·cases he
  ·cases he
def eOps(E:En)(ds:List (Option Nat)):List Oper→Tr RS→Sto→Option (Tr RS×Sto)
 | [],fr,h=>some (fr,h)
 |o::r,fr,h=>match eGd ds fr o.guard with
  |some true=>match eOp E o.op fr h with
   |some (v,h')=>match Oi fr o.dst v with
    |some fr'=>eOps E ds r fr' h'
    |none=>none
   |none=>none
  |some false=>match Oi fr o.dst (.v undef)with
   |some fr'=>eOps E ds r fr' h
   |none=>none
  |none=>none
def Kf(σ0:St)(c:Cx)(h:Sto)(fr':Tr RS)(h':Sto)(K:Fr→St→Prop):Prop:=
 ∀c' σ',Fp h.n c c'→Mt σ0 c' h' σ'→h.n≤h'.n→Ky h h'→wfr h'.n fr'→K (ifr c' fr') σ'
theorem Kf.then{h1:Sto}{K:Fr→St→Prop}{c1:Cx}(hk:Kf σ0 c h fr' h' K)(ha:Fp h.n c c1)(hn:h.n≤h1.n)(hkp:Ky h h1):Kf σ0 c1 h1 fr' h' K:=
 fun c' σ' h1' h2 h3 h4 h5=>hk c' σ' (ha.trans h1' hn) h2 (by omega) (hkp.trans h4 hn) h5
theorem Um(c:Cx):(RS.v undef).iv c= .v undef:=by simp only[RS.iv,RS.vv]
theorem W9{E:En}(hE:P8 P E){ds:List (Option Nat)}{K:Fr→St→Prop}:∀{l:List Oper} {fr:Tr RS} {h:Sto} {c:Cx} {σ:St},eOps E ds l fr h=some (fr',h')→Mt σ0 c h σ→wfr h.n fr→Kf σ0 c h fr' h' K→M1 P ds l K (ifr c fr) σ
 | [],fr,h,c,σ,he,hM,hf,hk=>by
  simp only[eOps,Option.some.injEq,Prod.mk.injEq]at he;obtain⟨rfl,rfl⟩:=he;exact hk c σ (.refl _ _) hM (Nat.le_refl _) (.refl h) hf
 |o::r,fr,h,c,σ,he,hM,hf,hk=>by
  simp only[eOps]at he;simp only[M1];split at he
  ·rename_i hg
   refine Qj hg (fun _=>?_) (fun h=>by cases h);split at he
   ·rename_i v h1 ho
    split at he
    ·rename_i fr1 hp
     refine W8 hE hM hf ho fun c1 σ1 ha hM1 hn hkp hv=>?_;have hf1:=Kk (Gj hn hf) hv hp;rw[←Em ha hf,←Kj hp];exact W9 hE he hM1 hf1 (hk.then ha hn hkp)
    ·cases he
   ·cases he
  ·rename_i hg
   refine Qj hg (fun h=>by cases h) (fun _=>?_);split at he
   ·rename_i fr1 hp
    have:=Kj (c:=c) hp;rw[Um]at this;rw[←this];exact W9 hE he hM (Kk hf (by simp only[RS.wf]) hp) hk
   ·cases he
  ·cases he
structure Nt where
 i:Nat
 o:Op
 f:Tr RS
 v:RS
def Nt.q(P:Program)(c:Cx)(s:Nt):Nat×(St→Prop):=(s.i,fun σ=>Yl P s.o (ifr c s.f) σ (s.v.iv c))
def Aer(E:En)(h:Sto)(i:Nat):List Nt→Bool
 | []=>true
 |s::S=>(match Nat.beq i s.i with
  |true=>match eOp E s.o s.f h with
   |some (v,h')=>RS.beq v s.v&&Nat.beq h'.n h.n
   |none=>false
  |false=>true)&&Aer E h i S
def eChk(E:En)(h:Sto)(S:List Nt):List Nat→Bool
 | []=>true
 |i::l=>Aer E h i S&&eChk E h S l
theorem Zm{E:En}(hE:P8 P E)(hM:Mt σ0 c h σ){i:Nat}:∀{S:List Nt},(∀s∈S,cls P s.o≠2∧wfr h.n s.f)→Aer E h i S=true→aLk i (S.map (Nt.q P c)) σ
 | [],_,_=>trivial
 |s::S,hS,he=>by
  simp only[Aer,Bool.and_eq_true]at he;obtain⟨he,he2⟩:=he;refine⟨fun hi=>?_,Zm hE hM (fun t ht=>hS t (by simp[ht])) he2⟩;have hi:i=s.i:=hi;rw[A2.2 hi]at he;simp only at he;split at he
  ·rename_i v h1 ho
   rw[Bool.and_eq_true,A2]at he;have hv:=Xz he.1;have hn:=he.2;obtain⟨hc,hf⟩:=hS s (by simp);have h0:=W8 hE hM hf ho (k:=fun w _=>w=v.iv c) fun c1 σ1 ha _ _ _ hw=>Lm ha v (by rw[←hn];exact hw);obtain⟨w,hw,hy⟩:=N4 hc h0;rw[hw,hv]at hy;exact hy
  ·cases he
theorem Aes{E:En}(hE:P8 P E)(hM:Mt σ0 c h σ){S:List Nt}(hS:∀s∈S,cls P s.o≠2∧wfr h.n s.f):∀{l:List Nat},eChk E h S l=true→aChk l (S.map (Nt.q P c)) σ
 | [],_=>trivial
 |i::l,he=>by
  simp only[eChk,Bool.and_eq_true]at he;exact⟨Zm hE hM hS he.1,Aes hE hM hS he.2⟩
def Oh(E:En)(ds:List (Option Nat))(l:List Oper):List PS→List Nt→Tr RS→Sto→Option (Tr RS×Sto)
 | [],_,fr,h=>some (fr,h)
 | .rd i keep::r,S,fr,h=>match l[i]? with
  |none=>none
  |some o=>match eGd ds fr o.guard with
   |some true=>match eOp E o.op fr h with
    |some (v,h')=>match Oi fr o.dst v with
     |some fr'=>Oh E ds l r (match keep with|true=>⟨i,o.op,fr,v⟩::S|false=>S) fr' h'
     |none=>none
    |none=>none
   |some false=>match Oi fr o.dst (.v undef)with
    |some fr'=>Oh E ds l r S fr' h
    |none=>none
   |none=>none
 | .ef i chk::r,S,fr,h=>match l[i]? with
  |none=>none
  |some o=>match eGd ds fr o.guard with
   |some true=>match eOp E o.op fr h with
    |some (v,h')=>match eChk E h' S chk with
     |true=>match Oi fr o.dst v with
      |some fr'=>Oh E ds l r S fr' h'
      |none=>none
     |false=>none
    |none=>none
   |some false=>match Oi fr o.dst (.v undef)with
    |some fr'=>Oh E ds l r S fr' h
    |none=>none
   |none=>none
theorem Aan(ha:Fp n c c'){S:List Nt}(hS:∀s∈S,wfr n s.f∧s.v.wf n):S.map (Nt.q P c')=S.map (Nt.q P c):=
 List.map_congr_left fun s hs=>by
  obtain⟨h1,h2⟩:=hS s hs;simp only[Nt.q,Em ha h1,Lm ha s.v h2]
theorem Jr{E:En}(hE:P8 P E){ds:List (Option Nat)}{l:List Oper}{K:Fr→St→Prop}:∀{pl:List PS} {S:List Nt} {L:Array Bool} {N:List Nat} {fr:Tr RS} {h:Sto} {c:Cx} {σ:St},Fj P l.toArray pl L N=true→Oh E ds l pl S fr h=some (fr',h')→
  (∀s∈S,cls P s.o≠2∧wfr h.n s.f∧s.v.wf h.n)→Mt σ0 c h σ→wfr h.n fr→Kf σ0 c h fr' h' K→Cm P ds l K pl (S.map (Nt.q P c)) (ifr c fr) σ
 | [],S,L,N,fr,h,c,σ,_,he,hS,hM,hf,hk=>by
  simp only[Oh,Option.some.injEq,Prod.mk.injEq]at he;obtain⟨rfl,rfl⟩:=he;exact hk c σ (.refl _ _) hM (Nat.le_refl _) (.refl h) hf
 | .rd i keep::r,S,L,N,fr,h,c,σ,hpl,he,hS,hM,hf,hk=>by
  simp only[Oh]at he;simp only[Cm];simp only[Fj,Bool.and_eq_true]at hpl;obtain⟨⟨⟨_,hcls⟩,_⟩,hpl⟩:=hpl;split at he
  ·cases he
  ·rename_i o ho
   try simp only[ho]
   split at he
   ·rename_i hg
    refine Qj hg (fun _=>?_) (fun h=>by cases h);split at he
    ·rename_i v h1 hop
     split at he
     ·rename_i fr1 hp
      refine W8 hE hM hf hop fun c1 σ1 ha hM1 hn hkp hv=>?_;have hf1:=Kk (Gj hn hf) hv hp;have hS1:∀s∈S,cls P s.o≠2∧wfr h1.n s.f∧s.v.wf h1.n:=fun s hs=>⟨(hS s hs).1,Gj hn (hS s hs).2.1,Jc hn _ (hS s hs).2.2⟩;rw[←Aan ha fun s hs=>(hS s hs).2];have hcl:cls P o.op≠2:=by
       simp only[Hi,List.getElem?_toArray,ho,Bool.or_eq_true,Bool.and_eq_true,beq_iff_eq]at hcls;rcases hcls with h|h
       ·omega
       ·omega
      rw[←Em ha hf,←Kj hp];cases keep with
      |true=>exact Jr hE (S:=⟨i,o.op,fr,v⟩::S) hpl he (fun s hs=>by
        rcases List.mem_cons.1 hs with rfl|hs
        ·exact⟨hcl,Gj hn hf,hv⟩
        ·exact hS1 s hs) hM1 hf1 (hk.then ha hn hkp)
      |false=>exact Jr hE hpl he hS1 hM1 hf1 (hk.then ha hn hkp)
     ·cases he
    ·cases he
   ·rename_i hg
    refine Qj hg (fun h=>by cases h) (fun _=>?_);split at he
    ·rename_i fr1 hp
     have:=Kj (c:=c) hp;rw[Um]at this;rw[←this];exact Jr hE hpl he hS hM (Kk hf (by simp only[RS.wf]) hp) hk
    ·cases he
   ·cases he
 | .ef i chk::r,S,L,N,fr,h,c,σ,hpl,he,hS,hM,hf,hk=>by
  simp only[Oh]at he;simp only[Cm];simp only[Fj,Bool.and_eq_true]at hpl;obtain⟨_,hpl⟩:=hpl;split at he
  ·cases he
  ·rename_i o ho
   try simp only[ho]
   split at he
   ·rename_i hg
    refine Qj hg (fun _=>?_) (fun h=>by cases h);split at he
    ·rename_i v h1 hop
     split at he
     ·rename_i hch
      split at he
      ·rename_i fr1 hp
       refine W8 hE hM hf hop fun c1 σ1 ha hM1 hn hkp hv=>?_;have hf1:=Kk (Gj hn hf) hv hp;have hS1:∀s∈S,cls P s.o≠2∧wfr h1.n s.f∧s.v.wf h1.n:=fun s hs=>⟨(hS s hs).1,Gj hn (hS s hs).2.1,Jc hn _ (hS s hs).2.2⟩;rw[←Aan ha fun s hs=>(hS s hs).2];refine⟨Aes hE hM1 (fun s hs=>⟨(hS1 s hs).1,(hS1 s hs).2.1⟩) hch,?_⟩;rw[←Em ha hf,←Kj hp];exact Jr hE hpl he hS1 hM1 hf1 (hk.then ha hn hkp)
      ·cases he
     ·cases he
    ·cases he
   ·rename_i hg
    refine Qj hg (fun h=>by cases h) (fun _=>?_);split at he
    ·rename_i fr1 hp
     have:=Kj (c:=c) hp;rw[Um]at this;rw[←this];exact Jr hE hpl he hS hM (Kk hf (by simp only[RS.wf]) hp) hk
    ·cases he
   ·cases he
end
abbrev ER:=Option (AEx×Tr RS×Sto)
def Ve(b:Tr RS→Sto→ER):Nat→Tr RS→Sto→ER
 |0,_,_=>none
 |m+1,fr,h=>match b fr h with
  |some (.normal,fr',h')=>Ve b m fr' h'
  |r=>r
def Alg(id:Nat):Pls→Option (List PS)
 | []=>none
 |(i,p)::l=>match Nat.beq i id with
  |true=>some p
  |false=>Alg id l
def Gg(P:Program)(pls:Pls):Code→Bool
 | .region id ops true=>match Alg id pls with
  |some pl=>pl.length==ops.toList.length&&Fj P ops.toList.toArray pl (Array.replicate ops.toList.length false) []
  |none=>false
 | .seq x y=>Gg P pls x&&Gg P pls y
 | .cond _ x y=>Gg P pls x&&Gg P pls y
 | .block _ x=>Gg P pls x
 | .loop x=>Gg P pls x
 | .scope x=>Gg P pls x
 | .rangeFunc _ _ x y=>Gg P pls x&&Gg P pls y
 |_=>true
def Ab9(E:En)(pls:Pls)(g:RS)(ps:List Nat)(assign body:Code)(fr:Tr RS)(h:Sto):ER:=match g with
 | .fn f fi ca=>gd (fi.all RS.isV&&ca.all RS.isV) (match h.new (.loop fr ps assign body .ready none pls)with
  |some (l,h1)=>match E.cl f (fi++[.yld l]++ca) h1 with
   |some (_,h2)=>match h2.get l with
    | .loop _ _ _ _ st pend _=>match st with
     | .busy=>none
     |_=>match pend with
      |none=>some (.normal,fr,h2.put l .gone)
      |some .ret=>some (.ret,fr,h2.put l .gone)
      |some (.exit id)=>some (.exit id,fr,h2.put l .gone)
      |_=>none
    |_=>none
   |none=>none
  |none=>none)
 |_=>none
def Dx(E:En)(lf:Nat)(pls:Pls):Code→Tr RS→Sto→ER
 | .skip,fr,h=>some (.normal,fr,h)
 | .region id ops false,fr,h=>match eOps E (Ie ops) ops.toList fr h with
  |some (fr',h')=>some (.normal,fr',h')
  |none=>none
 | .region id ops true,fr,h=>match Alg id pls with
  |some pl=>match Oh E (ops.toList.map (·.dst)) ops.toList pl [] fr h with
   |some (fr',h')=>some (.normal,fr',h')
   |none=>none
  |none=>none
 | .seq x y,fr,h=>match Dx E lf pls x fr h with
  |some (.normal,fr',h')=>Dx E lf pls y fr' h'
  |r=>r
 | .cond q x y,fr,h=>match eEv fr q with
  |some (.v (.bool true))=>Dx E lf pls x fr h
  |some (.v (.bool false))=>Dx E lf pls y fr h
  |_=>none
 | .block id x,fr,h=>match Dx E lf pls x fr h with
  |some (.exit j,fr',h')=>match Nat.beq j id with
   |true=>some (.normal,fr',h')
   |false=>some (.exit j,fr',h')
  |r=>r
 | .loop x,fr,h=>Ve (Dx E lf pls x) lf fr h
 | .exit id,fr,h=>some (.exit id,fr,h)
 | .scope x,fr,h=>match Dx E lf pls x fr h with
  |some (.goto _,_,_)=>none
  |r=>r
 | .ret,fr,h=>some (.ret,fr,h)
 | .label _,fr,h=>some (.normal,fr,h)
 | .rangeFunc g ps assign body,fr,h=>match eEv fr g with
  |some g=>Ab9 E pls g ps.toList assign body fr h
  |none=>none
 |_,_,_=>none
section
variable{P:Program}{σ0 σ:St}{c c':Cx}{h h':Sto}{n:Nat}{fr fr':Tr RS}{v:RS}
theorem Zq{x:Code}{b:Tr RS→Sto→ER}
  (hb:∀(e:AEx) (fr:Tr RS) (h:Sto) (fr':Tr RS) (h':Sto) (c:Cx) (σ:St) (K:AK),b fr h=some (e,fr',h')→Mt σ0 c h σ→wfr h.n fr→Kf σ0 c h fr' h' (K e)→A7 P x K (ifr c fr) σ) {K:AK} {e:AEx} (hn:e≠.normal):
  ∀{m:Nat} {fr:Tr RS} {h:Sto} {c:Cx} {σ:St},Ve b m fr h=some (e,fr',h')→Mt σ0 c h σ→wfr h.n fr→Kf σ0 c h fr' h' (K e)→Ng P x K m (ifr c fr) σ
 |0,fr,h,c,σ,he,_,_,_=>by cases he
 |m+1,fr,h,c,σ,he,hM,hf,hk=>by
  simp only[Ve]at he;show A7 P x (AK.then (Ng P x K m) K) (ifr c fr) σ;split at he
  ·rename_i fr1 h1 hb1
   refine hb _ _ _ _ _ c σ _ hb1 hM hf fun c1 σ1 ha hM1 hn1 hkp hf1=>?_;exact Zq hb hn he hM1 hf1 (hk.then ha hn1 hkp)
  ·rename_i hne
   rw[he]at hne;refine hb _ _ _ _ _ c σ _ he hM hf fun c1 σ1 ha hM1 hn1 hkp hf1=>?_;have:=hk c1 σ1 ha hM1 hn1 hkp hf1;cases e with
   |normal=>exact absurd rfl hn
   |_=>exact this
theorem Vf{b:Tr RS→Sto→ER}{e:AEx}:∀{m:Nat} {fr:Tr RS} {h:Sto},Ve b m fr h=some (e,fr',h')→e≠.normal
 |0,fr,h,he=>by cases he
 |m+1,fr,h,he=>by
  simp only[Ve]at he;split at he
  ·exact Vf he
  ·rename_i hne
   intro h2;subst h2;exact hne _ _ he
theorem Ag0{E:En}(hE:P8 P E){pls:Pls}{g:RS}{ps:List Nat}{assign body:Code}{K:AK}{e:AEx}(hM:Mt σ0 c h σ)(hf:wfr h.n fr)(hg:g.wf h.n)(he:Ab9 E pls g ps assign body fr h=some (e,fr',h'))(hk:Kf σ0 c h fr' h' (K e)):
  K7 P (g.iv c) ps assign body K (ifr c fr) σ:=by
 unfold Ab9 at he;split at he
 ·rename_i f fi ca
  rw[Al,Bool.and_eq_true]at he;obtain⟨hv,he⟩:=he;split at he
  ·rename_i l h1 hnew
   split at he
   ·rename_i r h2 hcl
    have hl:=Vw hnew;subst hl;simp only[RS.iv,RS.vv,K7];intro nn b hb hbx;have hag:=Io c h.n b nn;have hfr:=Em hag hf;obtain⟨_,hn1,hM1⟩:=hM.new (k:=nn) (x:=.loop (ifr c fr) nn ps assign body .ready none) hb hnew (by simp only[io];rw[hfr];simp only[Cx.more,if_true]) hf (Nat.zero_le _);simp only[RS.wf]at hg;have e1:∀l:List RS,l.all RS.isV=true→RS.wfs h.n l→(RS.vvs c l).map AV.v=RS.ivs (c.more h.n b nn) l:=fun l hl hw=>by
     rw[Fv hag l hw,Yo,Dl,List.map_map];exact List.map_congr_left fun x hx=>(Ij (List.all_eq_true.1 hl x hx)).symm
    have hargs:(RS.vvs c fi).map AV.v++[AV.v (.func (.yield b) #[] #[])]++(RS.vvs c ca).map AV.v=RS.ivs (c.more h.n b nn) (fi++[.yld h.n]++ca):=by
     rw[e1 fi hv.1 hg.1,e1 ca hv.2 hg.2,Oy,Oy];simp only[RS.ivs,RS.iv,RS.vv,Cx.more,if_true]
    have hwa:RS.wfs h1.n (fi++[.yld h.n]++ca):=by
     rw[hn1];refine Mv (Mv (Fc (by omega) _ hg.1) ?_) (Fc (by omega) _ hg.2);simp only[RS.wfs,RS.wf,and_true];omega
    have hlg:h1.get h.n= .loop fr ps assign body .ready none pls:=by
     unfold Sto.new at hnew;rw[Al,Bf]at hnew;obtain⟨hlt,hnew⟩:=hnew;injection hnew with hnew;injection hnew with _ h3;subst h3;have:=Sto.get_put (h:=h) (o:=.loop fr ps assign body .ready none pls) hlt hlt;rw[if_pos rfl]at this;exact this
    have hkn:=Ky.new hnew;rw[hargs];refine hE.cl _ _ _ _ _ hcl σ0 _ _ _ hM1 hwa fun c2 σ2 ha2 hM2 hn2 hkp2 hr=>?_;have hrb:c2.r h.n=b:=by rw[ha2.r h.n (by omega)];simp[Cx.more]
    have hknn:c2.k h.n=nn:=by rw[ha2.k h.n (by omega)];simp[Cx.more]
    have hag2:Fp h.n c c2:=hag.trans ha2 (by omega);split at he
    ·rename_i fr3 ps3 a3 b3 st pend pls3 hget
     rcases hkp2.lp h.n fr ps assign body .ready none pls (by omega) hlg with hgone|⟨st',pend',hget'⟩
     ·rw[hgone]at hget;cases hget
     rw[hget']at hget;injection hget with q1 q2 q3 q4 q5 q6 q7;subst q1;subst q2;subst q3;subst q4;subst q5;subst q6;subst q7;have hfr2:=Em hag2 hf;have hob:=hM2.ob h.n (.loop (ifr c fr) nn ps assign body st' pend') (by omega) (by rw[hget'];simp only[io,hfr2,hknn]);rw[hrb]at hob;have hne:h2.get h.n≠.gone:=by rw[hget'];intro e;cases e
     have hM3:=hM2.del (i:=h.n) (by omega) hne;rw[hrb]at hM3;have hkd:Ky h2 (h2.put h.n .gone):=.put hM2.wf.lt (by omega) (fun _ _ _ _ _ _ _ _=>.inl rfl) (fun _=>rfl);have hfin:∀e,(h'=h2.put h.n .gone∧fr'=fr)→Kf σ0 c h fr' h' (K e)→K e (ifr c fr) (σ2.del b):=fun e ⟨e1,e2⟩ hk=>by
      subst e1;subst e2;have:=hk c2 _ hag2 hM3 (by show h.n≤h2.n;omega) ((hkn.trans hkp2 (by omega)).trans hkd (by omega)) (Gj (by show h.n≤h2.n;omega) hf);rw[hfr2]at this;exact this
     simp only[Nc,hob];split at he
     ·cases he
     ·rename_i hst
      refine⟨hst,?_⟩;unfold Sj;split at he
      ·injection he with he
       injection he with h3 h4;injection h4 with h4 h5;subst h3;exact hfin _ ⟨h5.symm,h4.symm⟩ hk
      ·injection he with he
       injection he with h3 h4;injection h4 with h4 h5;subst h3;exact hfin _ ⟨h5.symm,h4.symm⟩ hk
      ·injection he with he
       injection he with h3 h4;injection h4 with h4 h5;subst h3;exact hfin _ ⟨h5.symm,h4.symm⟩ hk
      ·cases he
    ·cases he
   ·cases he
  ·cases he
 ·cases he
theorem Dc{E:En}(hE:P8 P E)(hm:P.follows .mixedOrders=true){lf:Nat}{pls:Pls}:∀(x:Code) {K:AK} {e:AEx} {fr fr':Tr RS} {h h':Sto} {c:Cx} {σ:St},Gg P pls x=true→Dx E lf pls x fr h=some (e,fr',h')→Mt σ0 c h σ→wfr h.n fr→Kf σ0 c h fr' h' (K e)→A7 P x K (ifr c fr) σ
 | .skip,K,e,fr,fr',h,h',c,σ,hp,he,hM,hf,hk=>by
  simp only[Dx,Option.some.injEq,Prod.mk.injEq]at he;obtain⟨rfl,rfl,rfl⟩:=he;exact hk c σ (.refl _ _) hM (Nat.le_refl _) (.refl h) hf
 | .region id ops false,K,e,fr,fr',h,h',c,σ,hp,he,hM,hf,hk=>by
  simp only[Dx]at he;split at he
  ·rename_i fr1 h1 ho
   injection he with he;injection he with h3 h4;injection h4 with h4 h5;subst h3;subst h4;subst h5;simp only[A7];exact W9 hE ho hM hf hk
  ·cases he
 | .region id ops true,K,e,fr,fr',h,h',c,σ,hp,he,hM,hf,hk=>by
  simp only[Dx]at he;simp only[Gg]at hp;split at he
  ·rename_i pl hpl
   rw[hpl]at hp;simp only[Bool.and_eq_true]at hp;split at he
   ·rename_i fr1 h1 ho
    injection he with he;injection he with h3 h4;injection h4 with h4 h5;subst h3;subst h4;subst h5;simp only[A7];have e1:ops=ops.toList.toArray:=by simp
    rw[e1];exact Sf pl hm hp.1 hp.2 (Jr hE (S:=[]) hp.2 ho (fun s hs=>by cases hs) hM hf hk)
   ·cases he
  ·cases he
 | .seq x y,K,e,fr,fr',h,h',c,σ,hp,he,hM,hf,hk=>by
  simp only[Gg,Bool.and_eq_true]at hp;simp only[Dx]at he;simp only[A7];split at he
  ·rename_i fr1 h1 h2
   refine Dc hE hm x hp.1 h2 hM hf fun c1 σ1 ha hM1 hn1 hkp hf1=>?_;exact Dc hE hm y hp.2 he hM1 hf1 (hk.then ha hn1 hkp)
  ·rename_i hne
   refine Dc hE hm x hp.1 he hM hf fun c1 σ1 ha hM1 hn1 hkp hf1=>?_;have:=hk c1 σ1 ha hM1 hn1 hkp hf1;cases e with
   |normal=>exact absurd he (hne _ _)
   |_=>exact this
 | .cond q x y,K,e,fr,fr',h,h',c,σ,hp,he,hM,hf,hk=>by
  simp only[Gg,Bool.and_eq_true]at hp;simp only[Dx]at he;simp only[A7];split at he
  ·rename_i hq
   have:=Bj (c:=c) hq;simp only[RS.iv,RS.vv]at this;rw[this];exact Dc hE hm x hp.1 he hM hf hk
  ·rename_i hq
   have:=Bj (c:=c) hq;simp only[RS.iv,RS.vv]at this;rw[this];exact Dc hE hm y hp.2 he hM hf hk
  ·cases he
 | .block id x,K,e,fr,fr',h,h',c,σ,hp,he,hM,hf,hk=>by
  simp only[Gg]at hp;simp only[Dx]at he;simp only[A7];split at he
  ·rename_i j fr1 h1 h2
   split at he
   ·rename_i hj
    rw[A2]at hj;injection he with he;injection he with h3 h4;injection h4 with h4 h5;subst h3;subst h4;subst h5;refine Dc hE hm x hp h2 hM hf fun c1 σ1 ha hM1 hn1 hkp hf1=>?_;show(if j=id then _ else _);rw[if_pos hj];exact hk c1 σ1 ha hM1 hn1 hkp hf1
   ·rename_i hj
    injection he with he;injection he with h3 h4;injection h4 with h4 h5;subst h3;subst h4;subst h5;refine Dc hE hm x hp h2 hM hf fun c1 σ1 ha hM1 hn1 hkp hf1=>?_;show(if j=id then _ else _);rw[if_neg (fun e=>by rw[A2.2 e]at hj;cases hj)];exact hk c1 σ1 ha hM1 hn1 hkp hf1
  ·rename_i hne
   refine Dc hE hm x hp he hM hf fun c1 σ1 ha hM1 hn1 hkp hf1=>?_;have:=hk c1 σ1 ha hM1 hn1 hkp hf1;cases e with
   |exit j=>exact absurd he (hne _ _ _)
   |_=>exact this
 | .loop x,K,e,fr,fr',h,h',c,σ,hp,he,hM,hf,hk=>by
  simp only[Gg]at hp;simp only[Dx]at he;simp only[A7];refine Jj lf ?_;exact Zq (fun e fr h fr' h' c σ K h1 h2 h3 h4=>Dc hE hm x hp h1 h2 h3 h4) (Vf he) he hM hf hk
 | .exit id,K,e,fr,fr',h,h',c,σ,hp,he,hM,hf,hk=>by
  simp only[Dx,Option.some.injEq,Prod.mk.injEq]at he;obtain⟨rfl,rfl,rfl⟩:=he;exact hk c σ (.refl _ _) hM (Nat.le_refl _) (.refl h) hf
 | .scope x,K,e,fr,fr',h,h',c,σ,hp,he,hM,hf,hk=>by
  simp only[Gg]at hp;simp only[Dx]at he;simp only[A7];split at he
  ·cases he
  ·rename_i hne
   refine Dc hE hm x hp he hM hf fun c1 σ1 ha hM1 hn1 hkp hf1=>?_;have:=hk c1 σ1 ha hM1 hn1 hkp hf1;cases e with
   |goto j=>exact absurd he (hne _ _ _)
   |_=>exact this
 | .ret,K,e,fr,fr',h,h',c,σ,hp,he,hM,hf,hk=>by
  simp only[Dx,Option.some.injEq,Prod.mk.injEq]at he;obtain⟨rfl,rfl,rfl⟩:=he;exact hk c σ (.refl _ _) hM (Nat.le_refl _) (.refl h) hf
 | .label _,K,e,fr,fr',h,h',c,σ,hp,he,hM,hf,hk=>by
  simp only[Dx,Option.some.injEq,Prod.mk.injEq]at he;obtain⟨rfl,rfl,rfl⟩:=he;exact hk c σ (.refl _ _) hM (Nat.le_refl _) (.refl h) hf
 | .rangeFunc g ps assign body,K,e,fr,fr',h,h',c,σ,hp,he,hM,hf,hk=>by
  simp only[Dx]at he;simp only[A7];split at he
  ·rename_i g' hg
   rw[Bj hg];exact Ag0 hE hM hf (Ck hf hg) he hk
  ·cases he
 | .goto _,K,e,fr,fr',h,h',c,σ,hp,he,hM,hf,hk=>by simp only[Dx]at he;cases he
 | .refuse _,K,e,fr,fr',h,h',c,σ,hp,he,hM,hf,hk=>by simp only[Dx]at he;cases he
structure FE where
 fn:Func
 pls:Pls
def Aqd(P:Program)(fe:FE):Bool:=match fe.fn.body with
 |some c=>Eu fe.fn.ntmps c&&fe.fn.results.toList.all (fun q=>decide (Wh q<fe.fn.ntmps))&&Gg P fe.pls c
 |none=>false
structure Fx(P:Program)(f:FuncId)(fe:FE):Prop where
 fn:P.funcs[f]? =some fe.fn
 nm:fe.fn.name≠ "runtime.NumGoroutine"
 ok:Aqd P fe=true
def Nk:List RS→Nat→Tr RS→Tr RS
 | [],_,t=>t
 |x::l,i,t=>Nk l (i+1) (t.set 10 i x)
theorem Nl:∀{l:List RS} {i:Nat} {t:Tr RS} {j:Nat},i+l.length≤1024→j<1024→(Nk l i t).get 10 j=if i≤j∧j<i+l.length then l[j-i]? else t.get 10 j
 | [],i,t,j,hi,hj=>by simp only[Nk,List.length_nil,Nat.add_zero];rw[if_neg (by omega)]
 |x::l,i,t,j,hi,hj=>by
  simp only[List.length_cons]at hi;simp only[Nk,List.length_cons];rw[Nl (by omega) hj,Tr.get_set 10 _ _ _ _ (by simp;omega) (by simpa using hj)];by_cases h1:j=i
  ·subst h1
   rw[if_neg (by omega),if_pos rfl,if_pos (by omega)];simp
  ·by_cases h2:i+1≤j∧j<i+1+l.length
   ·rw[if_pos h2,if_pos (by omega)]
    obtain⟨k,hk⟩:∃k,j-i=k+1:=⟨j-i-1,by omega⟩;rw[hk,show j-(i+1)=k by omega];simp
   ·rw[if_neg h2,if_neg h1,if_neg (by omega)]
theorem Age(j:Nat):(Tr.e:Tr RS).get 10 j=none:=rfl
theorem Ajm{as:List RS}(h:as.length≤1024):ifr c (Nk as 0 .e)=I6 (RS.ivs c as):=by
 funext j;simp only[ifr,I6];by_cases hj:j<1024
 ·rw[if_pos hj,Nl (by omega) hj,Age]
  by_cases h2:j<as.length
  ·rw[if_pos (by omega),Nat.sub_zero]
   obtain⟨x,hx⟩:∃x,as[j]? =some x:=⟨as[j],by simp[h2]⟩;rw[hx,Ts hx]
  ·rw[if_neg (by omega),List.getD_eq_getElem?_getD,List.getElem?_eq_none (by rw[Dd];omega)]
   rfl
 ·rw[if_neg hj,List.getD_eq_getElem?_getD,List.getElem?_eq_none (by rw[Dd];omega)]
  rfl
theorem Zz{as:List RS}(h:as.length≤1024)(hw:RS.wfs n as):wfr n (Nk as 0 .e):=by
 intro j v hj hv;rw[Nl (by omega) hj,Age]at hv;split at hv
 ·exact Sd hw hv
 ·cases hv
def Aev(E:En)(fr:Tr RS)(h:Sto):ResultVar→Option RS
 | .tmp t=>eEv fr (.tmp t)
 | .cell b t=>match E.te t,eEv fr (.tmp b)with
  |some te,some (.ptr i 0)=>match h.get i with
   | .cells cs=>Le te.k.ag te.k.sz 0 cs
   |_=>none
  |_,_=>none
def Td(E:En)(fr:Tr RS)(h:Sto):List ResultVar→Option (List RS)
 | []=>some []
 |q::l=>match Aev E fr h q with
  |some x=>match Td E fr h l with
   |some xs=>some (x::xs)
   |none=>none
  |none=>none
def oneS:List RS→RS
 | [x]=>x
 |l=>.tup l
theorem Apf(l:List RS):(oneS l).iv c=oneR (RS.ivs c l):=by
 match l with
 | []=>simp only[oneS,RS.iv,RS.ivs,oneR]
 | [x]=>simp only[oneS,RS.ivs,oneR]
 |x::y::l=>simp only[oneS,RS.iv,RS.ivs,oneR]
theorem Apg{l:List RS}(h:RS.wfs n l):(oneS l).wf n:=by
 match l,h with
 | [],h=>simpa only[oneS,RS.wf]using h
 | [x],h=>simp only[RS.wfs]at h;exact h.1
 |x::y::l,h=>simpa only[oneS,RS.wf]using h
theorem Ajg{E:En}(hE:P8 P E)(hM:Mt σ0 c h σ)(hf:wfr h.n fr){q:ResultVar}(he:Aev E fr h q=some v):Sk P (ifr c fr) σ q=some (v.iv c)∧v.wf h.n:=by
 cases q with
 |tmp t=>simp only[Aev]at he;exact⟨congrArg some (Bj he),Ck hf he⟩
 |cell b t=>
  simp only[Aev]at he;split at he
  ·rename_i te i hte hb
   split at he
   ·rename_i cs hg
    have h1:=Bj (c:=c) hb;have h2:=Ck hf hb;simp only[RS.wf]at h2;simp only[Fr.ev,RS.iv,RS.vv]at h1;have h3:=hM.ob i (.cells (RS.ivs c cs)) h2 (by rw[hg];rfl);have hw:=hM.wf.ob i h2;rw[hg]at hw;refine⟨?_,Jt hw he⟩;have:=Js (c:=c) (K:=fun a=>a=v.iv c) he rfl;unfold Kw at this;simp only[Sk,(hE.ty _ _ hte).k,Yy,h1,h3];cases hag:te.k.ag with
    |true=>
     rw[hag]at this;simp only[if_true,Nat.zero_add,List.drop_zero]at this⊢;rw[if_pos this.1,this.2]
    |false=>
     rw[hag]at this;simp only[Bool.false_eq_true,if_false]at this⊢;rw[if_pos this.1,this.2]
   ·cases he
  ·cases he
theorem Zs{E:En}(hE:P8 P E)(hM:Mt σ0 c h σ)(hf:wfr h.n fr):∀{l:List ResultVar} {vs:List RS},Td E fr h l=some vs→Rh P (ifr c fr) σ l=some (RS.ivs c vs)∧RS.wfs h.n vs
 | [],vs,he=>by simp only[Td,Option.some.injEq]at he;subst he;exact⟨rfl,by simp only[RS.wfs]⟩
 |q::l,vs,he=>by
  simp only[Td]at he;split at he
  ·rename_i x hx
   split at he
   ·rename_i xs hxs
    injection he with he;subst he;have h1:=Ajg hE hM hf hx;have h2:=Zs hE hM hf hxs;simp only[Rh,h1.1,h2.1,RS.ivs,RS.wfs];exact⟨trivial,h1.2,h2.2⟩
   ·cases he
  ·cases he
def eFun(E:En)(lf:Nat)(fe:FE)(as:List RS)(h:Sto):Option (RS×Sto):=gd (Nat.ble as.length 1024&&Nat.ble as.length fe.fn.ntmps) (match fe.fn.body with
 |some c=>match Dx E lf fe.pls c (Nk as 0 .e) h with
  |some (.normal,fr',h')=>match Td E fr' h' fe.fn.results.toList with
   |some vs=>some (oneS vs,h')
   |none=>none
  |some (.ret,fr',h')=>match Td E fr' h' fe.fn.results.toList with
   |some vs=>some (oneS vs,h')
   |none=>none
  |_=>none
 |none=>none)
theorem Ank{E:En}(hE:P8 P E)(hm:P.follows .mixedOrders=true){lf:Nat}{f:FuncId}{fe:FE}(hfe:Fx P f fe){as:List RS}(he:eFun E lf fe as h=some (v,h'))(hM:Mt σ0 c h σ)(hw:RS.wfs h.n as){k:AV→St→Prop}(hk:Kt σ0 c h v h' k):AT P f (RS.ivs c as) σ k:=by
 unfold eFun at he;rw[Al,Bool.and_eq_true,Bz,Bz]at he;obtain⟨⟨hl1,hl2⟩,he⟩:=he;have hok:=hfe.ok;unfold Aqd at hok;split at he
 ·rename_i cd hcd
  rw[hcd]at hok;simp only[Bool.and_eq_true]at hok;refine AT.of_body hfe.fn hcd hfe.nm hok.1.1 hok.1.2 (by rw[Dd];exact hl2) ?_;rw[←Ajm hl1];have fin:∀fr1 h1 vs,Td E fr1 h1 fe.fn.results.toList=some vs→v=oneS vs→h'=h1→Kf σ0 c h fr1 h1 (Dw P k fe.fn.results.toList):=fun fr1 h1 vs hr e1 e2 c1 σ1 ha hM1 hn1 hkp hf1=>by
   subst e1;subst e2;obtain⟨g1,g2⟩:=Zs hE hM1 hf1 hr;refine⟨_,by unfold A9;rw[g1],_,σ1,Hf.refl _ _,?_⟩;rw[←Apf];exact hk c1 σ1 ha hM1 hn1 hkp (Apg g2)
  split at he
  ·rename_i fr1 h1 hc1
   split at he
   ·rename_i vs hvs
    injection he with he;injection he with e1 e2;exact Dc hE hm cd hok.2 hc1 hM (Zz hl1 hw) (fin _ _ _ hvs e1.symm e2.symm)
   ·cases he
  ·rename_i fr1 h1 hc1
   split at he
   ·rename_i vs hvs
    injection he with he;injection he with e1 e2;exact Dc hE hm cd hok.2 hc1 hM (Zz hl1 hw) (fin _ _ _ hvs e1.symm e2.symm)
   ·cases he
  ·cases he
 ·cases he
end
def parT:List Nat→List RS→Tr RS→Option (Tr RS)
 |p::ps,a::as,fr=>gd (Nat.blt p 1024) (parT ps as (fr.set 10 p a))
 |_,_,fr=>some fr
def Acb(P:Program)(E:En)(lf:Nat)(l:Nat)(as:List RS)(h:Sto):Option (RS×Sto):=match h.get l with
 | .loop fr ps a b st pend pls=>match st with
  | .ready=>gd (Nat.beq as.length ps.length&&Qq a&&Qq b&&Gg P pls a&&Gg P pls b) (match parT ps as fr with
   |some fr0=>match Dx E lf pls a fr0 h with
    |some (.normal,fr1,h1)=>match h1.get l with
     | .loop _ _ _ _ .ready none _=>match Dx E lf pls b fr1 (h1.put l (.loop fr ps a b .busy none pls))with
      |some (e,_,h3)=>match h3.get l with
       | .loop _ _ _ _ .busy _ _=>match e with
        | .normal=>some (.v (.bool true),h3.put l (.loop fr ps a b .ready none pls))
        | .ret=>some (.v (.bool false),h3.put l (.loop fr ps a b .done (some .ret) pls))
        | .exit id=>some (.v (.bool false),h3.put l (.loop fr ps a b .done (some (.exit id)) pls))
        | .goto _=>none
       |_=>none
      |none=>none
     |_=>none
    |_=>none
   |none=>none)
  |_=>none
 |_=>none
section
variable{P:Program}{σ0 σ:St}{c c':Cx}{h h':Sto}{n:Nat}{fr fr':Tr RS}{v:RS}
theorem Afq:∀{ps:List Nat} {as:List RS} {fr fr':Tr RS},parT ps as fr=some fr'→ifr c fr'=Pn (ifr c fr) ps (RS.ivs c as)
 |p::ps,a::as,fr,fr',he=>by
  simp only[parT,Al,Bf]at he;obtain⟨hp,he⟩:=he;have:=Kj (c:=c) (fr:=fr) (d:=some p) (v:=a) (fr':=fr.set 10 p a) (by simp only[Oi];rw[Bf.2 hp];rfl);rw[Afq he,this];rfl
 | [],as,fr,fr',he=>by simp only[parT,Option.some.injEq]at he;subst he;rfl
 |p::ps,[],fr,fr',he=>by simp only[parT,Option.some.injEq]at he;subst he;rfl
theorem Afr:∀{ps:List Nat} {as:List RS} {fr fr':Tr RS},wfr n fr→RS.wfs n as→parT ps as fr=some fr'→wfr n fr'
 |p::ps,a::as,fr,fr',hf,hw,he=>by
  simp only[parT,Al,Bf]at he;obtain⟨hp,he⟩:=he;simp only[RS.wfs]at hw;exact Afr (Kk (d:=some p) hf hw.1 (by simp only[Oi];rw[Bf.2 hp];rfl)) hw.2 he
 | [],as,fr,fr',hf,_,he=>by simp only[parT,Option.some.injEq]at he;subst he;exact hf
 |p::ps,[],fr,fr',hf,_,he=>by simp only[parT,Option.some.injEq]at he;subst he;exact hf
theorem Ag2{E:En}(hE:P8 P E)(hm:P.follows .mixedOrders=true){lf l:Nat}{as:List RS}(he:Acb P E lf l as h=some (v,h'))(hM:Mt σ0 c h σ)(hw:RS.wfs h.n as)(hl:l<h.n){k:AV→St→Prop}(hk:Kt σ0 c h v h' k):
  YC P (c.r l) (RS.ivs c as) σ k:=by
 unfold Acb at he;split at he
 ·rename_i fr ps a b st pend pls hg
  split at he
  ·rw[Al]at he
   simp only[Bool.and_eq_true,A2]at he;obtain⟨⟨⟨⟨⟨hlen,hfa⟩,hfb⟩,hpa⟩,hpb⟩,he⟩:=he;have hob:=hM.ob l (.loop (ifr c fr) (c.k l) ps a b .ready pend) hl (by rw[hg];rfl);have hfw:=hM.wf.ob l hl;rw[hg]at hfw;refine Abt hob (by rw[Dd];exact hlen) (by rw[hfa,hfb];rfl) ?_;split at he
   ·rename_i fr0 hpar
    rw[←Afq hpar];have hf0:=Afr hfw hw hpar;split at he
    ·rename_i fr1 h1 hca
     refine Dc hE hm a hpa hca hM hf0 fun c1 σ1 ha1 hM1 hn1 hkp1 hf1=>?_;have hfr1:=Em ha1 hfw;split at he
     ·rename_i fq pq aq bq pls1 hg1
      have hr1:h1.get l= .loop fr ps a b .ready none pls:=by
       rcases hkp1.lp l fr ps a b .ready pend pls hl hg with h2|⟨st',pend',h2⟩
       ·rw[h2]at hg1;cases hg1
       ·rw[h2]at hg1
        injection hg1 with q1 q2 q3 q4 q5 q6 q7;subst q5;subst q6;exact h2
      have hob1:=hM1.ob l (.loop (ifr c fr) (c.k l) ps a b .ready none) (by omega) (by rw[hr1];simp only[io,hfr1,ha1.k l hl]);rw[ha1.r l hl]at hob1;refine⟨hob1,?_⟩;have hne1:h1.get l≠.gone:=by rw[hr1];intro e;cases e
      have hM2:=hM1.put (i:=l) (o:=.loop fr ps a b .busy none pls) (x:=.loop (ifr c fr) (c.k l) ps a b .busy none) (by omega) hne1 (by simp only[io,hfr1,ha1.k l hl]) (Gj hn1 hfw) (Nat.zero_le _);rw[ha1.r l hl]at hM2
      have hkp2:Ky h1 (h1.put l (.loop fr ps a b .busy none pls)):=.put hM1.wf.lt (by omega) (fun fr' ps' a' b' st' pend' pls' e=>by
       rw[hr1]at e;injection e with q1 q2 q3 q4 q5 q6 q7;subst q1;subst q2;subst q3;subst q4;subst q7;exact .inr ⟨.busy,none,rfl⟩) (fun e=>absurd e hne1)
      split at he
      ·rename_i e fr3 h3 hcb
       refine Dc hE hm b hpb hcb hM2 hf1 fun c3 σ3 ha3 hM3 hn3 hkp3 hf3=>?_;have hn2:h.n≤h3.n:=Nat.le_trans hn1 hn3;have hl2:(h1.put l (.loop fr ps a b .busy none pls)).get l= .loop fr ps a b .busy none pls:=by
        have:=Sto.get_put (h:=h1) (o:=.loop fr ps a b .busy none pls) (i:=l) (j:=l) (by have:=hM1.wf.lt;omega) (by have:=hM1.wf.lt;omega);rw[if_pos rfl]at this;exact this
       have ha13:Fp h.n c c3:=ha1.trans ha3 hn1;have hfr3:=Em ha13 hfw;split at he
       ·rename_i fq pq aq bq pendq plsq hg3
        have hr3:∃p,h3.get l= .loop fr ps a b .busy p pls:=by
         rcases hkp3.lp l fr ps a b .busy none pls (by show l<h1.n;omega) hl2 with h2|⟨st',pend',h2⟩
         ·rw[h2]at hg3;cases hg3
         ·rw[h2]at hg3
          injection hg3 with q1 q2 q3 q4 q5 q6 q7;subst q5;exact⟨pend',h2⟩
        obtain⟨p3,hr3⟩:=hr3;have hob3:=hM3.ob l (.loop (ifr c fr) (c.k l) ps a b .busy p3) (by omega) (by rw[hr3];simp only[io,hfr3,ha13.k l hl]);rw[ha13.r l hl]at hob3;have hne3:h3.get l≠.gone:=by rw[hr3];intro e;cases e
        have fin:∀st' pend' (x:RS),x.wf 0→v=x→h'=h3.put l (.loop fr ps a b st' pend' pls)→k (x.iv c3) (σ3.set (c.r l) (.loop (ifr c fr) (c.k l) ps a b st' pend')):=fun st' pend' x hx e1 e2=>by
         subst e1;subst e2;have hM4:=hM3.put (i:=l) (o:=.loop fr ps a b st' pend' pls) (x:=.loop (ifr c fr) (c.k l) ps a b st' pend') (by omega) hne3 (by simp only[io,hfr3,ha13.k l hl]) (Gj hn2 hfw) (Nat.zero_le _);rw[ha13.r l hl]at hM4;refine hk c3 _ ha13 hM4 hn2 ?_ (Jc (Nat.zero_le _) _ hx)
         refine((hkp1.trans hkp2 hn1).trans hkp3 (by show h.n≤h1.n;omega)).trans (.put hM3.wf.lt (by omega) (fun fr' ps' a' b' st'' pend'' pls' e=>by
          rw[hr3]at e;injection e with q1 q2 q3 q4 q5 q6 q7;subst q1;subst q2;subst q3;subst q4;subst q7;exact .inr ⟨st',pend',rfl⟩) (fun e=>absurd e hne3)) hn2
        split at he
        ·injection he with he
         injection he with e1 e2;have:=fin .ready none (.v (.bool true)) (by simp only[RS.wf]) e1.symm e2.symm;simp only[RS.iv,RS.vv]at this;exact⟨⟨p3,hob3⟩,this⟩
        ·injection he with he
         injection he with e1 e2;have:=fin .done (some .ret) (.v (.bool false)) (by simp only[RS.wf]) e1.symm e2.symm;simp only[RS.iv,RS.vv]at this;exact⟨⟨p3,hob3⟩,this⟩
        ·injection he with he
         injection he with e1 e2;have:=fin .done (some (.exit _)) (.v (.bool false)) (by simp only[RS.wf]) e1.symm e2.symm;simp only[RS.iv,RS.vv]at this;exact⟨⟨p3,hob3⟩,this⟩
        ·cases he
       ·cases he
      ·cases he
     ·cases he
    ·cases he
   ·cases he
  ·cases he
 ·cases he
def mkE(P:Program)(ty:Tr TE)(ft:Tr FE)(idle:FuncId→Bool)(lf:Nat):Nat→En
 |0=>⟨ty,fun _ _ _=>none,fun _ _ _=>none,idle⟩
 |d+1=>⟨ty,fun f as h=>match gd (Nat.blt f 1024) (ft.get 10 f)with
   |some fe=>eFun (mkE P ty ft idle lf d) lf fe as h
   |none=>none,fun l as h=>Acb P (mkE P ty ft idle lf d) lf l as h,idle⟩
structure PrOk(P:Program)(ty:Tr TE)(ft:Tr FE)(idle:FuncId→Bool):Prop where
 mx:P.follows .mixedOrders=true
 ty:∀t e,t<1024→ty.get 10 t=some e→Gl P t e
 ft:∀f e,f<1024→ft.get 10 f=some e→Fx P f e
 idle:∀f,idle f=true→(∃fn,P.funcs[f]? =some fn∧fn.body.isSome=true∧fn.name≠ "runtime.NumGoroutine")∧∀vs,Yr P f vs
theorem Ak1{ty:Tr TE}{ft:Tr FE}{idle:FuncId→Bool}(hp:PrOk P ty ft idle)(lf d:Nat)(t:TypeId)(e:TE)(he:(mkE P ty ft idle lf d).te t=some e):Gl P t e:=by
 have h2:(mkE P ty ft idle lf d).ty=ty:=by cases d<;>rfl
 simp only[En.te,h2,Al,Bf]at he;exact hp.ty t e he.1 he.2
theorem Acy{ty:Tr TE}{ft:Tr FE}{idle:FuncId→Bool}(hp:PrOk P ty ft idle)(lf:Nat):∀d,P8 P (mkE P ty ft idle lf d)
 |0=>by
  refine⟨Ak1 hp lf 0,?_,?_,hp.idle⟩
  ·intro f as h v h' he;cases he
  ·intro l as h v h' he;cases he
 |d+1=>by
  refine⟨Ak1 hp lf (d+1),?_,?_,hp.idle⟩
  ·intro f as h v h' he σ0 c σ k hM hw hk
   simp only[mkE]at he;split at he
   ·rename_i fe hfe
    rw[Al,Bf]at hfe;exact Ank (Acy hp lf d) hp.mx (hp.ft f fe hfe.1 hfe.2) he hM hw hk
   ·cases he
  ·intro l as h v h' he σ0 c σ k hM hw hl hk
   exact Ag2 (Acy hp lf d) hp.mx he hM hw hl hk
end
end Go.Av
