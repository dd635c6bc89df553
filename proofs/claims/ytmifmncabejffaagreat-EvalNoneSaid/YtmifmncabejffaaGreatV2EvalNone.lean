/-
  The program logic: definitions and lemmas over any program.
  Conditions: none.
-/
import Derived.Deep.Quiet
import Derived.ProofKit
import Derived.OpenShut
import Derived.ShutString
import Derived.ChangeOld
import Derived.Below
import Derived.SizedLaws
import Derived.Laws.Externs
import Derived.Test.YtmifmncabejffaaGreatV1EvalNone
set_option linter.unusedVariables false
set_option linter.unusedSimpArgs false
set_option linter.unusedSectionVars false
set_option maxRecDepth 100000
namespace Go.Av
open Go Go.RowKit
theorem Ads{fr:Fr}{d:Option Nat}{v:AV}{x:Operand}(h:∀t,d=some t→x≠.tmp t):(fr.put d v).ev x=fr.ev x:=by
 cases d with
 |none=>rfl
 |some t=>
  cases x with
  |tmp s=>
   have:s≠t:=fun e=>h t rfl (by rw[e]);simp[Fr.put,Fr.up,Fr.ev,this]
  |_=>rfl
theorem Hp{fr:Fr}{d d':Option Nat}{v v':AV}(h:∀t,d=some t→d'≠some t):(fr.put d v).put d' v'=(fr.put d' v').put d v:=by
 cases d with
 |none=>rfl
 |some t=>
  cases d' with
  |none=>rfl
  |some t'=>
   have:t≠t':=fun e=>h t rfl (by rw[e]);funext x;simp only[Fr.put,Fr.up];by_cases h1:x=t'
   ·subst h1;simp[Ne.symm this]
   ·by_cases h2:x=t
    ·subst h2;simp[h1]
    ·simp[h1,h2]
theorem M1{e e':Operand→AV}:∀(l:List (Nat×Operand)),(∀p∈l,e p.2=e' p.2)→evs e l=evs e' l
 | [],_=>rfl
 |p::l,h=>by
  have:=M1 l fun q hq=>h q (by simp[hq]);simp only[evs,List.map_cons]at this⊢;rw[h p (by simp),this]
theorem H5{e e':Operand→AV}:∀(l:List Operand),(∀p∈l,e p=e' p)→B7 e l=B7 e' l
 | [],_=>rfl
 |p::l,h=>by
  simp only[B7];rw[h p (by simp),H5 l fun q hq=>h q (by simp[hq])]
theorem Py{α β:Type}{e e':α→β}:∀(l:List α),(∀p∈l,e p=e' p)→l.map e=l.map e'
 | [],_=>rfl
 |p::l,h=>by rw[List.map_cons,List.map_cons,h p (by simp),Py l fun q hq=>h q (by simp[hq])]
theorem K3{α β:Type}{e e':α→β}(o:Option α)(h:∀p,o=some p→e p=e' p):o.map e=o.map e':=by
 cases o with
 |none=>rfl
 |some p=>rw[Option.map_some,Option.map_some,h p rfl]
theorem Aa2{P:Program}{o:Op}{fr fr':Fr}{σ:St}{k:AV→St→Prop}(h:∀x∈o.operands,fr.ev x=fr'.ev x):aOp P o fr σ k=aOp P o fr' σ k:=by
 have hh:=fun x=>h x;cases o with
 |move x=>simp only[aOp,h x (by simp[Op.operands])]
 |assign x=>simp only[aOp,h x (by simp[Op.operands])]
 |pick c x y=>simp only[aOp,h c (by simp[Op.operands]),h x (by simp[Op.operands]),h y (by simp[Op.operands])]
 |box e x=>simp only[aOp,h x (by simp[Op.operands])]
 |build t ps=>
  simp only[aOp];rw[M1 ps.toList fun p hp=>h p.2 (by simp only[Op.operands,List.mem_toArray];exact List.mem_map.2 ⟨p,hp,rfl⟩)]
 |buildSlice t n ps=>
  simp only[aOp];rw[M1 ps.toList fun p hp=>h p.2 (by simp only[Op.operands,List.mem_toArray];exact List.mem_map.2 ⟨p,hp,rfl⟩)]
 |load t x=>simp only[aOp,h x (by simp[Op.operands])]
 |store t x y=>simp only[aOp,h x (by simp[Op.operands]),h y (by simp[Op.operands])]
 |nilCheck x=>simp only[aOp,h x (by simp[Op.operands])]
 |binOp op t x y ty=>simp only[aOp,h x (by simp[Op.operands]),h y (by simp[Op.operands])]
 |unOp op t x=>simp only[aOp,h x (by simp[Op.operands])]
 |convert s d x=>simp only[aOp,h x (by simp[Op.operands])]
 |makeFunc fn l m=>
  simp only[aOp,Dx];rw[H5 l.toList fun p hp=>h p (by simp[Op.operands];left;simpa using hp),H5 m.toList fun p hp=>h p (by simp[Op.operands];right;simpa using hp)]
 |slice t x lo hi mx=>
  simp only[aOp];rw[h x (by simp[Op.operands]),K3 lo fun p hp=>h p (by simp[Op.operands,hp]),K3 hi fun p hp=>h p (by simp[Op.operands,hp]),K3 mx fun p hp=>h p (by simp[Op.operands,hp])]
 |fieldAddr s x f=>simp only[aOp,h x (by simp[Op.operands])]
 |field s x f=>simp only[aOp,h x (by simp[Op.operands])]
 |indexAddr t x ix=>simp only[aOp,h x (by simp[Op.operands]),h ix (by simp[Op.operands])]
 |index t x ix=>simp only[aOp,h x (by simp[Op.operands]),h ix (by simp[Op.operands])]
 |extract x j=>simp only[aOp,h x (by simp[Op.operands])]
 |call c=>
  obtain⟨callee,args,ts⟩:=c;have ha:args.toList.map fr.ev=args.toList.map fr'.ev:=Py _ fun p hp=>h p (by simp[Op.operands,Call.operands];right;simpa using hp);have hb:∀p∈args.toList,fr.ev p=fr'.ev p:=fun p hp=>h p (by simp[Op.operands,Call.operands];right;simpa using hp);simp only[aOp,Dr];cases callee with
  |value y=>
   cases y with
   |func f=>simp only[ha]
   |tmp t=>
    have:=h (.tmp t) (by simp[Op.operands,Call.operands]);simp only[Fr.ev]at this;simp only[ha,this]
   |_=>rfl
  |invoke r m=>rfl
  |builtin b=>
   cases b
   case len=>
    simp only;split
    ·rename_i x t hx ht
     rw[hb x (by rw[hx];simp)]
    ·rfl
   case append=>
    simp only;split
    ·rename_i s x t1 t2 hx ht
     rw[hb x (by rw[hx];simp),hb s (by rw[hx];simp)]
    ·rfl
   all_goals simp only[ha]
 |alloc e=>rfl
 |_=>exact Uk (P:=P) (σ:=σ) (k:=k) h
theorem Abu{i:Option TK}{σ:St}{p x:AV}:Mon fun k=>Ek i σ p x fun σ'=>k (.v undef) σ':=by
 intro k k' hk h;unfold Ek at h⊢;cases i with
 |none=>exact h
 |some i=>
  refine⟨h.1,h.2.1,?_⟩;have h:=h.2.2;split at h
  ·split at h
   ·rename_i hb;simp only[hb];exact⟨h.1,hk _ _ h.2⟩
   ·exact h.elim
  ·split at h
   ·rename_i hb;simp only[hb];exact⟨h.1,h.2.1,h.2.2.1,hk _ _ h.2.2.2⟩
   ·exact h.elim
  ·exact h.elim
theorem Abs{q eby:Nat}{ys:List (List AV)}{σ:St}{s:AV}:Mon (D7 q eby ys σ s):=by
 intro k k' hk h;unfold D7 at h⊢;split at h
 ·exact⟨fun e=>hk _ _ (h.1 e),fun e=>⟨(h.2 e).1,fun b cap hb hc=>hk _ _ ((h.2 e).2 b cap hb hc)⟩⟩
 ·exact⟨h.1,fun e=>hk _ _ (h.2.1 e),fun e=>⟨(h.2.2 e).1,fun b cap hb hc=>hk _ _ ((h.2.2 e).2 b cap hb hc)⟩⟩
 ·rcases h with⟨h1,h2,es,h3,h4,h5⟩|⟨hp,h⟩|⟨hp,h⟩|⟨h0,pre,es,cap',h1,h2,h3,h4,h5,h6⟩
  ·exact .inl ⟨h1,h2,es,h3,h4,fun b' c' hb' hc'=>hk _ _ (h5 b' c' hb' hc')⟩
  ·refine .inr (.inl ⟨hp,?_⟩)
   split at h
   ·exact⟨h.1,h.2.1,h.2.2.1,h.2.2.2.1,fun b' c' hb' hc'=>hk _ _ (h.2.2.2.2 b' c' hb' hc')⟩
   ·exact h.elim
  ·refine .inr (.inr (.inl ⟨hp,?_⟩))
   split at h
   ·exact⟨h.1,h.2.1,h.2.2.1,h.2.2.2.1,h.2.2.2.2.1,hk _ _ h.2.2.2.2.2⟩
   ·exact h.elim
  ·exact .inr (.inr (.inr ⟨h0,pre,es,cap',h1,h2,h3,h4,h5,fun b' p' c' hb' hc'=>hk _ _ (h6 b' p' c' hb' hc')⟩))
 ·exact h.elim
theorem Ahy{i:Option TK}{σ:St}{s x:AV}:Mon (Qw i σ s x):=by
 intro k k' hk h;unfold Qw at h⊢;cases i with
 |none=>exact h
 |some i=>
  simp only at h⊢;split at h
  ·obtain⟨h1,h2,h3,ys,h4,h5⟩:=h
   exact⟨h1,h2,h3,ys,h4,Abs k k' hk h5⟩
  ·exact h.elim
theorem Ael{i j:Option TK}{σ:St}{x:AV}:Mon (Hd i j σ x):=by
 intro k k' hk h;cases i with
 |none=>exact h
 |some i=>
  cases j with
  |none=>exact h
  |some j=>
   simp only[Hd]at h⊢;split at h
   ·exact hk _ _ h
   ·exact hk _ _ h
   ·exact fun b cap hb hc=>hk _ _ (h b cap hb hc)
   ·obtain⟨es,h1,h2,h3⟩:=h
    exact⟨es,h1,h2,hk _ _ h3⟩
   ·exact h.elim
theorem Xz{P:Program}{i:Option TK}{σ:St}{m x v:AV}:Mon fun k=>Hz P i σ m x v fun σ'=>k (.v undef) σ':=by
 intro k k' hk h;unfold Hz at h⊢;split at h
 ·split at h
  ·split at h
   ·split at h
    ·exact⟨h.1,h.2.1,hk _ _ h.2.2⟩
    ·exact h.elim
   ·exact h.elim
  ·exact h.elim
 ·exact h.elim
theorem Xy{P:Program}{i:Option TK}{σ:St}{m x:AV}:Mon (Hy P i σ m x):=by
 intro k k' hk h;unfold Hy at h⊢;split at h
 ·split at h
  ·split at h
   ·split at h
    ·exact⟨h.1,h.2.1,hk _ _ h.2.2⟩
    ·exact h.elim
   ·exact h.elim
  ·exact h.elim
 ·exact h.elim
theorem Akw{P:Program}{b:Builtin}{args:List AV}{ts:List TypeId}{σ:St}:Mon (aBI P b args ts σ):=by
 intro k k' hk h;unfold aBI at h⊢;split at h
 ·split at h
  ·exact Xy k k' hk h
  ·exact h.elim
 ·split at h
  ·exact Zg.mon k k' hk h
  ·exact h.elim
 ·split at h
  ·exact Zf.mon k k' hk h
  ·exact h.elim
 ·split at h
  ·unfold aClear at h⊢
   split at h
   ·exact h.elim
   ·split at h
    ·split at h
     ·exact hk _ _ h
     ·rename_i b p n _
      by_cases hn:n=0
      ·rw[if_pos hn]at h⊢
       exact hk _ _ h
      ·rw[if_neg hn]at h⊢
       split at h
       ·exact⟨h.1,h.2.1,h.2.2.1,h.2.2.2.1,h.2.2.2.2.1,hk _ _ h.2.2.2.2.2⟩
       ·exact h.elim
     ·exact h.elim
    ·exact h.elim
  ·exact h.elim
 ·split at h
  ·unfold aCap at h⊢
   split at h
   ·exact hk _ _ h
   ·exact h.elim
  ·exact h.elim
 ·split at h
  ·unfold Q5 at h⊢
   split at h
   ·obtain⟨h1,es,cap,ys,m,h2,h3,h4,h5,h6,h7⟩:=h
    exact⟨h1,es,cap,ys,m,h2,h3,h4,h5,h6,hk _ _ h7⟩
   ·exact h.elim
  ·exact h.elim
 ·exact h.elim
theorem Aek{i j:Option TK}{σ:St}{s x:AV}:Mon (aAppN i j σ s x):=by
 intro k k' hk h;unfold aAppN at h⊢;split at h
 ·obtain⟨h1,h2,h3,h4,h5,h6,es,frz,cap',h7,h8,h9⟩:=h
  exact⟨h1,h2,h3,h4,h5,h6,es,frz,cap',h7,h8,fun b' c' hb hc=>hk _ _ (h9 b' c' hb hc)⟩
 ·exact h.elim
theorem Aem{P:Program}{o:Op}{fr:Fr}{σ:St}:Mon (Cq P o fr σ):=by
 intro k k' hk h;unfold Cq at h⊢;split at h
 ·unfold Ld at h⊢
  split at h
  ·split at h
   ·split at h
    ·exact⟨h.1,h.2.1,h.2.2.1,h.2.2.2.1,h.2.2.2.2.1,h.2.2.2.2.2.1,fun b hb=>hk _ _ (h.2.2.2.2.2.2 b hb)⟩
    ·exact h.elim
   ·exact h.elim
  ·exact h.elim
 ·unfold Mq at h⊢
  split at h
  ·split at h
   ·exact⟨h.1,h.2.1,hk _ _ h.2.2⟩
   ·exact h.elim
  ·exact h.elim
 ·exact fun b hb=>hk _ _ (h b hb)
 ·exact U6.mon k k' hk h
 ·exact Xz k k' hk h
 ·exact Zh.mon k k' hk h
 ·exact Zk.mon k k' hk h
 ·exact h.elim
theorem Abt{P:Program}{x:AV}{args:List AV}{σ:St}:Mon (Hw P x args σ):=by
 intro k k' hk h;unfold Hw at h⊢;split at h
 ·exact⟨h.1,h.2.1,h.2.2.mono hk⟩
 ·exact h.mono hk
 ·exact h.elim
theorem H0{P:Program}{o:Op}{fr:Fr}{σ:St}:Mon (aOp P o fr σ):=by
 have hm:=Aem (P:=P) (o:=o) (fr:=fr) (σ:=σ);cases o with
 |move x=>exact fun k k' hk h=>hk _ _ h
 |assign x=>exact fun k k' hk h=>hk _ _ h
 |pick c x y=>exact U8.mon
 |alloc e=>
  intro k k' hk h;simp only[aOp,Ik]at h⊢;split at h
  ·exact fun b hb=>hk _ _ (h b hb)
  ·exact h.elim
 |box e x=>exact fun k k' hk h=>⟨h.1,fun b hb=>hk _ _ (h.2 b hb)⟩
 |build t ps=>exact Ra.mon
 |buildSlice t n ps=>exact Pe.mon
 |load t x=>exact U5.mon
 |store t x y=>exact Abu
 |nilCheck x=>exact Zi.mon
 |binOp op t x y ty=>exact fun k k' hk h=>Aen (fun v=>hk v σ) h
 |unOp op t x=>exact Ac0.mon
 |convert s d x=>exact Ael
 |makeFunc fn l m=>exact U3.mon
 |slice t x lo hi mx=>exact Zj.mon
 |fieldAddr s x f=>exact U2.mon
 |field s x f=>exact Zc.mon
 |indexAddr t x ix=>exact(U4 (σ:=σ)).mon
 |index t x ix=>exact Zd.mon
 |extract x j=>exact Zb.mon
 |call c=>
  obtain⟨callee,args,ts⟩:=c;intro k k' hk h;simp only[aOp,Dr]at h⊢;cases callee with
  |value y=>
   cases y with
   |func f=>exact AT.mono h hk
   |tmp t=>exact Abt k k' hk h
   |_=>exact h.elim
  |invoke r m=>exact h.elim
  |builtin b=>
   cases b<;>simp only at h⊢
   case len=>
    split at h
    ·exact Ze.mon k k' hk h
    ·exact h.elim
   case append=>
    split at h
    ·split at h
     ·rename_i hn;rw[if_pos hn];exact Ahy k k' hk h
     ·rename_i hn;rw[if_neg hn];exact Aek k k' hk h
    ·exact h.elim
   all_goals exact Akw k k' hk h
 |_=>exact fun k k' hk h=>hm k k' hk h
def cls(P:Program):Op→Nat
 | .move _| .assign _| .pick .. | .build .. | .buildSlice .. | .nilCheck _| .unOp .. | .makeFunc .. | .fieldAddr .. | .field .. | .indexAddr .. | .index .. | .extract .. =>0
 | .load .. | .slice .. | .lookup .. =>1
 | .makeInterface .. =>0
 | .typeAssert _ _ _ ok=>if ok then 2 else 0
 | .binOp _ t _ _ _=>if Du P t then 2 else 0
 | .call c=>match c.callee with
  | .builtin .len| .builtin .min| .builtin .max=>0
  |_=>2
 | .convert s d _=>match tk P s,tk P d with
  |some i,some j=>match i.td,j.td with
   | .int _,.int _=>0
   | .str,.str=>0
   | .sl q _ _ byt,.str=>if q=1∧byt=true then 1 else 2
   |_,_=>2
  |_,_=>2
 |_=>2
def Yl(P:Program)(o:Op)(fr:Fr)(σ:St)(v:AV):Prop:=∀k:AV→St→Prop,k v σ→aOp P o fr σ k
theorem Det.yl{T:(AV→Prop)→Prop}(h:Det T){σ:St}{k:AV→St→Prop}(ht:T fun v=>k v σ):∃v,k v σ∧∀k':AV→St→Prop,k' v σ→T fun v=>k' v σ:=by
 obtain⟨v,h1,h2⟩:=h _ ht;exact⟨v,h1,fun k' hk=>h2 _ hk⟩
theorem Le{P:Program}{o:Op}{fr:Fr}{σ:St}{k:AV→St→Prop}(hc:cls P o≠2)(h:aOp P o fr σ k):∃v,k v σ∧Yl P o fr σ v:=by
 cases o with
 |move x=>exact⟨_,h,fun k' hk=>hk⟩
 |assign x=>exact⟨_,h,fun k' hk=>hk⟩
 |pick c x y=>exact U8.yl h
 |build t ps=>exact Ra.yl h
 |buildSlice t n ps=>exact Pe.yl h
 |load t x=>exact U5.yl h
 |nilCheck x=>exact Zi.yl h
 |binOp op t x y ty=>
  have hsl:Du P t=false:=by
   simp only[cls]at hc;cases hq:Du P t with
   |false=>rfl
   |true=>rw[hq]at hc;exact absurd rfl hc
  exact(Af1 hsl).yl h
 |unOp op t x=>exact Ac0.yl h
 |makeFunc fn l m=>exact U3.yl h
 |slice t x lo hi mx=>exact Zj.yl h
 |fieldAddr s x f=>exact U2.yl h
 |field s x f=>exact Zc.yl h
 |indexAddr t x ix=>exact(U4 (σ:=σ)).yl h
 |index t x ix=>exact Zd.yl h
 |extract x j=>exact Zb.yl h
 |convert s d x=>
  unfold Yl;simp only[aOp]at h⊢;simp only[cls]at hc;cases hi:tk P s with
  |none=>rw[hi]at h;exact h.elim
  |some i=>
   cases hj:tk P d with
   |none=>rw[hi,hj]at h;exact h.elim
   |some j=>
    obtain⟨ag,sz,zr,td⟩:=i;obtain⟨ag',sz',zr',td'⟩:=j;rw[hi,hj]at h;rw[hi,hj]at hc;cases td<;>cases td'<;>try (exact absurd rfl hc)
    ·generalize fr.ev x=y at h⊢
     cases y with
     |v y=>cases y with
      |int ik m=>exact⟨_,h,fun k' hk=>hk⟩
      |_=>exact False.elim h
     |_=>exact False.elim h
    ·generalize fr.ev x=y at h⊢
     cases y with
     |v y=>cases y with
      |string s=>exact⟨_,h,fun k' hk=>hk⟩
      |_=>exact False.elim h
     |_=>exact False.elim h
    ·rename_i q eby ez byt
     obtain⟨rfl,rfl⟩:q=1∧byt=true:=by
      have hc2:(if q=1∧byt=true then 1 else 2)≠2:=hc;split at hc2
      ·assumption
      ·exact absurd rfl hc2
     obtain⟨es,h1,h2,h3⟩:=h;exact⟨_,h3,fun k' hk=>⟨es,h1,h2,hk⟩⟩
 |call c=>
  obtain⟨callee,args,ts⟩:=c;unfold Yl;simp only[aOp,Dr]at h⊢;simp only[cls]at hc;split at hc
  ·simp only at h⊢
   split at h
   ·exact Ze.yl h
   ·exact h.elim
  ·simp only[aBI]at h⊢
   split at h
   ·exact Zg.yl h
   ·exact h.elim
  ·simp only[aBI]at h⊢
   split at h
   ·exact Zf.yl h
   ·exact h.elim
  ·exact absurd rfl hc
 |lookup t m x ok=>
  unfold Yl;simp only[aOp,Cq]at h⊢;exact U6.yl h
 |makeInterface t x=>
  unfold Yl;simp only[aOp,Cq]at h⊢;exact Zh.yl h
 |typeAssert x t u ok=>
  cases ok with
  |true=>exact absurd rfl hc
  |false=>
   unfold Yl;simp only[aOp,Cq]at h⊢;exact Zk.yl h
 |_=>exact absurd rfl hc
theorem Yl.any{P:Program}{o:Op}{fr:Fr}{σ:St}{v:AV}(hc:cls P o=0)(h:Yl P o fr σ v)(σ':St):Yl P o fr σ' v:=by
 have tr:∀(T:(AV→Prop)→Prop),(∀k:AV→St→Prop,k v σ→T fun v=>k v σ)→∀k:AV→St→Prop,k v σ'→T fun v=>k v σ':=fun T h k hk=>h (fun v _=>k v σ') hk;cases o with
 |move x=>exact tr (fun K=>K (fr.ev x)) h
 |assign x=>exact tr (fun K=>K (fr.ev x)) h
 |pick c x y=>exact tr (Hf (fr.ev c) (fr.ev x) (fr.ev y)) h
 |build t ps=>exact tr (Fz (tk P t) (evs fr.ev ps.toList)) h
 |buildSlice t n ps=>exact tr (Eu (tk P t) n (evs fr.ev ps.toList)) h
 |nilCheck x=>exact tr (Mr (fr.ev x)) h
 |binOp op t x y ty=>exact tr (C2 P op t (fr.ev x) (fr.ev y)) h
 |unOp op t x=>exact tr (aUn op (fr.ev x)) h
 |makeFunc fn l m=>exact tr (Dx fn fr.ev l.toList m.toList) h
 |fieldAddr s x f=>exact tr (Gu (tk P s) f (fr.ev x)) h
 |field s x f=>exact tr (Lb (tk P s) f (fr.ev x)) h
 |indexAddr t x ix=>exact tr (Dy (tk P t) σ (fr.ev x) (fr.ev ix)) h
 |index t x ix=>exact tr (Om (tk P t) (fr.ev x) (fr.ev ix)) h
 |extract x j=>exact tr (Ff (fr.ev x) j) h
 |convert s d x=>
  unfold Yl at h⊢;simp only[aOp]at h⊢;simp only[cls]at hc;cases hi:tk P s with
  |none=>rw[hi]at hc;simp at hc
  |some i=>
   cases hj:tk P d with
   |none=>rw[hi,hj]at hc;simp at hc
   |some j=>
    obtain⟨ag,sz,zr,td⟩:=i;obtain⟨ag',sz',zr',td'⟩:=j;rw[hi,hj]at h;rw[hi,hj]at hc;cases td<;>cases td'<;>try (cases hc;done)
    ·generalize fr.ev x=y at h⊢
     cases y with
     |v y=>cases y with
      |int ik m=>exact tr (fun K=>K _) h
      |_=>exact False.elim (h (fun _ _=>True) trivial)
     |_=>exact False.elim (h (fun _ _=>True) trivial)
    ·generalize fr.ev x=y at h⊢
     cases y with
     |v y=>cases y with
      |string s=>exact tr (fun K=>K _) h
      |_=>exact False.elim (h (fun _ _=>True) trivial)
     |_=>exact False.elim (h (fun _ _=>True) trivial)
    ·rename_i q eby ez byt
     have hc2:(if q=1∧byt=true then 1 else 2)=0:=hc;split at hc2<;>cases hc2
 |call c=>
  obtain⟨callee,args,ts⟩:=c;unfold Yl at h⊢;simp only[aOp,Dr]at h⊢;simp only[cls]at hc;split at hc
  ·simp only at h⊢
   split at h
   ·rename_i x t hx ht
    exact tr (Im (tk P t) (fr.ev x)) h
   ·exact False.elim (h (fun _ _=>True) trivial)
  ·simp only[aBI]at h⊢
   split at h
   ·exact tr (aMin _ _) h
   ·exact False.elim (h (fun _ _=>True) trivial)
  ·simp only[aBI]at h⊢
   split at h
   ·exact tr (aMax _ _) h
   ·exact False.elim (h (fun _ _=>True) trivial)
  ·cases hc
 |makeInterface t x=>
  unfold Yl at h⊢;simp only[aOp,Cq]at h⊢;exact tr (aMkI P t (fr.ev x)) h
 |typeAssert x t u ok=>
  cases ok with
  |true=>cases hc
  |false=>
   unfold Yl at h⊢;simp only[aOp,Cq]at h⊢;exact tr (aTyA P u (fr.ev x)) h
 |_=>cases hc
class Bx (α:Type) where
 val:α
def hid{α:Type}[c:Bx α]:α:=c.val
@[go_sem] theorem Anp{α β:Type}{f:α→β}{a:α}:(@hid (α→β) ⟨f⟩) a=f a:=_root_.id rfl
section
variable{P:Program}
@[go_sem] theorem Aqw{K:AK}{fr:Fr}{σ:St}:Aw P .skip K fr σ=K .normal fr σ:=_root_.id rfl
@[go_sem] theorem Amk{id:Nat}{l:List Oper}{K:AK}{fr:Fr}{σ:St}:Aw P (.region id l.toArray false) K fr σ=J9 P (l.map (·.dst)) l (@hid _ ⟨K .normal⟩) fr σ:=_root_.id rfl
@[go_sem] theorem Aqm{id:Nat}{ops:Array Oper}{K:AK}{fr:Fr}{σ:St}:Aw P (.region id ops true) K fr σ=Ol P ops (@hid _ ⟨K .normal⟩) fr σ:=_root_.id rfl
@[go_sem] theorem Atc{x y:Code}{K:AK}{fr:Fr}{σ:St}:Aw P (.seq x y) K fr σ=Aw P x (@hid _ ⟨AK.then (Aw P y K) K⟩) fr σ:=_root_.id rfl
@[go_sem] theorem Aqk{c:Operand}{x y:Code}{K:AK}{fr:Fr}{σ:St}:Aw P (.cond c x y) K fr σ=Ui (fr.ev c) (@hid _ ⟨Aw P x K fr σ⟩) (@hid _ ⟨Aw P y K fr σ⟩):=_root_.id rfl
theorem Aa{id:Nat}{x:Code}{K:AK}{fr:Fr}{σ:St}:Aw P (.block id x) K fr σ=Aw P x (@hid _ ⟨AK.block id K⟩) fr σ:=_root_.id rfl
@[go_sem] theorem Aqu{x:Code}{K:AK}{fr:Fr}{σ:St}:Aw P (.loop x) K fr σ=Acl (@hid _ ⟨Aw P x⟩) K fr σ:=_root_.id rfl
@[go_sem] theorem Aqn{id:Nat}{K:AK}{fr:Fr}{σ:St}:Aw P (.exit id) K fr σ=K (.exit id) fr σ:=_root_.id rfl
@[go_sem] theorem Aox{x:Code}{K:AK}{fr:Fr}{σ:St}:Aw P (.scope x) K fr σ=Aw P x (@hid _ ⟨AK.noGoto K⟩) fr σ:=_root_.id rfl
@[go_sem] theorem Atb{K:AK}{fr:Fr}{σ:St}:Aw P .ret K fr σ=K .ret fr σ:=_root_.id rfl
@[go_sem] theorem Aow{g:Operand}{l:List Nat}{x y:Code}{K:AK}{fr:Fr}{σ:St}:Aw P (.rangeFunc g l.toArray x y) K fr σ=Ip P (fr.ev g) l x y K fr σ:=_root_.id rfl
@[go_sem] theorem Aov{l:Nat}{K:AK}{fr:Fr}{σ:St}:Aw P (.label l) K fr σ=K .normal fr σ:=_root_.id rfl
@[go_sem] theorem Amn{A:Fr→St→Prop}{K:AK}{fr:Fr}{σ:St}:AK.then A K .normal fr σ=A fr σ:=_root_.id rfl
@[go_sem] theorem Alv{A:Fr→St→Prop}{K:AK}:AK.then A K .normal=A:=_root_.id rfl
@[go_sem] theorem Aml{A:Fr→St→Prop}{K:AK}{id:Nat}{fr:Fr}{σ:St}:AK.then A K (.exit id) fr σ=K (.exit id) fr σ:=_root_.id rfl
@[go_sem] theorem Amm{A:Fr→St→Prop}{K:AK}{id:Nat}{fr:Fr}{σ:St}:AK.then A K (.goto id) fr σ=K (.goto id) fr σ:=_root_.id rfl
@[go_sem] theorem Amo{A:Fr→St→Prop}{K:AK}{fr:Fr}{σ:St}:AK.then A K .ret fr σ=K .ret fr σ:=_root_.id rfl
@[go_sem] theorem Alt{K:AK}{id:Nat}{fr:Fr}{σ:St}:AK.block id K .normal fr σ=K .normal fr σ:=_root_.id rfl
@[go_sem] theorem Ak3{K:AK}{id:Nat}:AK.block id K .normal=K .normal:=_root_.id rfl
@[go_sem] theorem Alr{K:AK}{id j:Nat}{fr:Fr}{σ:St}:AK.block id K (.exit j) fr σ=if j=id then K .normal fr σ else K (.exit j) fr σ:=_root_.id rfl
@[go_sem] theorem Als{K:AK}{id j:Nat}{fr:Fr}{σ:St}:AK.block id K (.goto j) fr σ=K (.goto j) fr σ:=_root_.id rfl
@[go_sem] theorem Alu{K:AK}{id:Nat}{fr:Fr}{σ:St}:AK.block id K .ret fr σ=K .ret fr σ:=_root_.id rfl
@[go_sem] theorem Aqo{Q:AV→St→Prop}{l:List ResultVar}{fr:Fr}{σ:St}:AK.fn P Q l .normal fr σ=Fp P Q l fr σ:=_root_.id rfl
@[go_sem] theorem Aqp{Q:AV→St→Prop}{l:List ResultVar}{fr:Fr}{σ:St}:AK.fn P Q l .ret fr σ=Fp P Q l fr σ:=_root_.id rfl
@[go_sem] theorem As9{ds:List (Option Nat)}{K:Fr→St→Prop}{fr:Fr}{σ:St}:J9 P ds [] K fr σ=K fr σ:=_root_.id rfl
@[go_sem] theorem Aql{ds:List (Option Nat)}{d:Option Nat}{op:Op}{t:TypeId}{p:String}{e:Array Edge}{l:List Oper}{K:Fr→St→Prop}{fr:Fr}{σ:St}:
  J9 P ds ({dst:=d,op:=op,type:=t,pos:=p,after:=e,guard:=none}::l) K fr σ=aOp P op fr σ (@hid _ ⟨fun v σ'=>J9 P ds l K (fr.put d v) σ'⟩):=_root_.id rfl
@[go_sem] theorem Aot{ds:List (Option Nat)}{d:Option Nat}{op:Op}{t:TypeId}{p:String}{e:Array Edge}{g:Nat×Bool}{l:List Oper}{K:Fr→St→Prop}{fr:Fr}{σ:St}:
  J9 P ds ({dst:=d,op:=op,type:=t,pos:=p,after:=e,guard:=some g}::l) K fr σ=aGd ds fr (some g) (@hid _ ⟨aOp P op fr σ (@hid _ ⟨fun v σ'=>J9 P ds l K (fr.put d v) σ'⟩)⟩) (@hid _ ⟨J9 P ds l K (fr.put d (.v undef)) σ⟩):=_root_.id rfl
def aGd1(x:AV)(want:Bool)(A B:Prop):Prop:=
 match x with
 | .v (.bool b)=>if want then aIf b A B else aIf b B A
 | .v _=>B
 |_=>False
@[go_sem] theorem As8{want:Bool}{A B:Prop}:aGd1 (.v undef) want A (@hid _ ⟨B⟩)=B:=_root_.id rfl
@[go_sem] theorem As6{d:Nat}{ds:List (Option Nat)}{fr:Fr}{want:Bool}{A B:Prop}:aGd (some d::ds) fr (some (0,want)) A B=aGd1 (fr d) want A B:=_root_.id rfl
@[go_sem] theorem As7{d:Option Nat}{ds:List (Option Nat)}{fr:Fr}{j:Nat}{want:Bool}{A B:Prop}:aGd (d::ds) fr (some (j+1,want)) A B=aGd ds fr (some (j,want)) A B:=_root_.id rfl
@[go_sem] theorem Aqr{b:Bool}{A B:Prop}:aGd1 (.v (.bool b)) true A B=aIf b A B:=_root_.id rfl
@[go_sem] theorem Aqq{b:Bool}{A B:Prop}:aGd1 (.v (.bool b)) false A B=aIf b B A:=_root_.id rfl
@[go_sem] theorem Aos{b:Bool}{A B:Prop}:Ui (.v (.bool b)) A B=aIf b A B:=_root_.id rfl
@[go_sem] theorem Aqt{A B:Prop}:aIf true (@hid _ ⟨A⟩) B=A:=_root_.id rfl
@[go_sem] theorem Aqs{A B:Prop}:aIf false A (@hid _ ⟨B⟩)=B:=by simp[aIf,hid]
@[go_sem] theorem Amj{b:Bool}{A B:Prop}:aIf (!b) A B=aIf b B A:=by cases b<;>simp[aIf]
theorem aIf_by{p:Prop}[Decidable p]{A B:Prop}(h1:p→A)(h2:¬p→B):aIf (decide p) (@hid _ ⟨A⟩) (@hid _ ⟨B⟩):=by
 unfold aIf;by_cases h:p
 ·rw[if_pos (by simpa using h)];exact h1 h
 ·rw[if_neg (by simpa using h)];exact h2 h
theorem aIf_bool{b:Bool}{A B:Prop}(h1:b=true→A)(h2:b=false→B):aIf b (@hid _ ⟨A⟩) (@hid _ ⟨B⟩):=by
 unfold aIf;cases b
 ·rw[if_neg (by simp)];exact h2 rfl
 ·rw[if_pos rfl];exact h1 rfl
@[go_sem] theorem r_up{fr:Fr}{t x:Nat}{v:AV}:(fr.up t v) x=if x=t then v else fr x:=_root_.id rfl
@[go_sem] theorem Ata{fr:Fr}{t:Nat}{v:AV}:fr.put (some t) v=fr.up t v:=_root_.id rfl
@[go_sem] theorem Aqv{fr:Fr}{v:AV}:fr.put none v=fr:=_root_.id rfl
@[go_sem] theorem As4{fr:Fr}{t:Nat}:fr.ev (.tmp t)=fr t:=_root_.id rfl
@[go_sem] theorem As2{fr:Fr}{v:Value}:fr.ev (.const v)=ofConst v:=_root_.id rfl
@[go_sem] theorem As3{fr:Fr}{f:Nat}:fr.ev (.func f)= .v (.func (.func f) #[] #[]):=_root_.id rfl
@[go_sem] theorem r_c1{k:IntKind}{x:Int}:ofConst (.int k x)= .v (.int k x):=_root_.id rfl
@[go_sem] theorem r_c2{x:Bool}:ofConst (.bool x)= .v (.bool x):=_root_.id rfl
@[go_sem] theorem r_c3{x:ByteArray}:ofConst (.string x)= .v (.string x):=_root_.id rfl
@[go_sem] theorem r_c4{x:Option Addr}:ofConst (.pointer x)= .v (.pointer x):=_root_.id rfl
@[go_sem] theorem r_c5{x:Option Addr}{l c:Nat}:ofConst (.slice x l c)= .v (.slice x l c):=_root_.id rfl
@[go_sem] theorem r_c6{l:List Value}:ofConst (.agg l.toArray)= .agg (l.map .v):=_root_.id rfl
@[go_sem] theorem r_c7{x:Option Nat}:ofConst (.map x)= .v (.map x):=_root_.id rfl
@[go_sem] theorem r_c8:ofConst .nilFunc= .v .nilFunc:=_root_.id rfl
@[go_sem] theorem r_c9:ofConst .nilIface= .v .nilIface:=_root_.id rfl
@[go_sem] theorem Aou{args:List AV}{t:Nat}:Gy args t=args.getD t (.v undef):=_root_.id rfl
def aIfT(b:Bool)(A B:Prop):Prop:=if b=true then A else B
@[go_sem] theorem Ar4{A B:Prop}:aIfT true (@hid _ ⟨A⟩) B=A:=_root_.id rfl
@[go_sem] theorem Ar3{A B:Prop}:aIfT false A (@hid _ ⟨B⟩)=B:=_root_.id rfl
section
variable{fr:Fr}{σ:St}{k:AV→St→Prop}{K:AV→Prop}
@[go_sem] theorem Aqe{x:Operand}:aOp P (.move x) fr σ k=k (fr.ev x) σ:=_root_.id rfl
@[go_sem] theorem Amf{x:Operand}:aOp P (.assign x) fr σ k=k (fr.ev x) σ:=_root_.id rfl
@[go_sem] theorem Aqf{c x y:Operand}:aOp P (.pick c x y) fr σ k=Hf (fr.ev c) (fr.ev x) (fr.ev y) (@hid _ ⟨fun v=>k v σ⟩):=_root_.id rfl
@[go_sem] theorem Aoj{e:TypeId}:aOp P (.alloc e) fr σ k=Ik (tk P e) σ k:=_root_.id rfl
@[go_sem] theorem Aso{e:TypeId}{x:Operand}:aOp P (.box e x) fr σ k=aBox (fr.ev x) σ k:=_root_.id rfl
@[go_sem] theorem Aok{t:TypeId}{l:List (Nat×Operand)}:aOp P (.build t l.toArray) fr σ k=Fz (tk P t) (evs fr.ev l) (@hid _ ⟨fun v=>k v σ⟩):=_root_.id rfl
@[go_sem] theorem Amg{t:TypeId}{n:Nat}{l:List (Nat×Operand)}:aOp P (.buildSlice t n l.toArray) fr σ k=Eu (tk P t) n (evs fr.ev l) (@hid _ ⟨fun v=>k v σ⟩):=_root_.id rfl
@[go_sem] theorem Aqb{t:TypeId}{x:Operand}:aOp P (.load t x) fr σ k=B8 (tk P t) σ (fr.ev x) (@hid _ ⟨fun v=>k v σ⟩):=_root_.id rfl
@[go_sem] theorem Aoo{t:TypeId}{x y:Operand}:aOp P (.store t x y) fr σ k=Ek (tk P t) σ (fr.ev x) (fr.ev y) (@hid _ ⟨fun σ'=>k (.v undef) σ'⟩):=_root_.id rfl
@[go_sem] theorem Asx{x:Operand}:aOp P (.nilCheck x) fr σ k=Mr (fr.ev x) (@hid _ ⟨fun v=>k v σ⟩):=_root_.id rfl
@[go_sem] theorem Asn{op:BinOp}{t ty:TypeId}{x y:Operand}:aOp P (.binOp op t x y ty) fr σ k=C2 P op t (fr.ev x) (fr.ev y) (@hid _ ⟨fun v=>k v σ⟩):=_root_.id rfl
@[go_sem] theorem o_un{op:UnOp}{t:TypeId}{x:Operand}:aOp P (.unOp op t x) fr σ k=aUn op (fr.ev x) (@hid _ ⟨fun v=>k v σ⟩):=_root_.id rfl
@[go_sem] theorem Ap6{s d:TypeId}{x:Operand}:aOp P (.convert s d x) fr σ k=Hd (tk P s) (tk P d) σ (fr.ev x) k:=_root_.id rfl
@[go_sem] theorem Ap9{fn:Fn}{l m:List Operand}:aOp P (.makeFunc fn l.toArray m.toArray) fr σ k=Dx fn fr.ev l m (@hid _ ⟨fun v=>k v σ⟩):=_root_.id rfl
@[go_sem] theorem Asy{t:TypeId}{x:Operand}{lo hi mx:Option Operand}:aOp P (.slice t x lo hi mx) fr σ k=aSli (tk P t) σ (fr.ev x) (lo.map fr.ev) (hi.map fr.ev) (mx.map fr.ev) (@hid _ ⟨fun v=>k v σ⟩):=_root_.id rfl
@[go_sem] theorem Ap8{s f:Nat}{x:Operand}:aOp P (.fieldAddr s x f) fr σ k=Gu (tk P s) f (fr.ev x) (@hid _ ⟨fun v=>k v σ⟩):=_root_.id rfl
@[go_sem] theorem Asr{s f:Nat}{x:Operand}:aOp P (.field s x f) fr σ k=Lb (tk P s) f (fr.ev x) (@hid _ ⟨fun v=>k v σ⟩):=_root_.id rfl
@[go_sem] theorem Aqa{t:TypeId}{x ix:Operand}:aOp P (.indexAddr t x ix) fr σ k=Dy (tk P t) σ (fr.ev x) (fr.ev ix) (@hid _ ⟨fun v=>k v σ⟩):=_root_.id rfl
@[go_sem] theorem Ass{t:TypeId}{x ix:Operand}:aOp P (.index t x ix) fr σ k=Om (tk P t) (fr.ev x) (fr.ev ix) (@hid _ ⟨fun v=>k v σ⟩):=_root_.id rfl
@[go_sem] theorem Asq{x:Operand}{j:Nat}:aOp P (.extract x j) fr σ k=Ff (fr.ev x) j (@hid _ ⟨fun v=>k v σ⟩):=_root_.id rfl
@[go_sem] theorem Aol{f:FuncId}{l:List Operand}{ts:Array TypeId}:aOp P (.call {callee:=.value (.func f),args:=l.toArray,argTypes:=ts}) fr σ k=AT P f (l.map fr.ev) σ k:=_root_.id rfl
@[go_sem] theorem Aom{t:Nat}{l:List Operand}{ts:Array TypeId}:aOp P (.call {callee:=.value (.tmp t),args:=l.toArray,argTypes:=ts}) fr σ k=Hw P (fr t) (l.map fr.ev) σ k:=_root_.id rfl
@[go_sem] theorem Ake{f:FuncId}{l m:List Value}{args:List AV}:Hw P (.v (.func (.func f) l.toArray m.toArray)) args σ k=AT P f (l.map .v++args++m.map .v) σ k:=_root_.id rfl
@[go_sem] theorem Aiw{l:Nat}{args:List AV}:Hw P (.v (.func (.yield l) #[] #[])) args σ k=YC P l args σ k:=by simp[Hw]
@[go_sem] theorem Ak2{fr:Fr}{p:Nat}{ps:List Nat}{a:AV}{as:List AV}:Ma fr (p::ps) (a::as)=Ma (fr.up p a) ps as:=_root_.id rfl
@[go_sem] theorem Alq{fr:Fr}{as:List AV}:Ma fr [] as=fr:=by cases as<;>rfl
@[go_sem] theorem Ast{x:Operand}{t:TypeId}:aOp P (.call {callee:=.builtin .len,args:=#[x],argTypes:=#[t]}) fr σ k=Im (tk P t) (fr.ev x) (@hid _ ⟨fun v=>k v σ⟩):=_root_.id rfl
@[go_sem] theorem Asm{s x:Operand}{t1 t2:TypeId}:aOp P (.call {callee:=.builtin .append,args:=#[s,x],argTypes:=#[t1,t2]}) fr σ k=aIfT (K0 (tk P t2)) (@hid _ ⟨Qw (tk P t1) σ (fr.ev s) (fr.ev x) k⟩) (@hid _ ⟨aAppN (tk P t1) (tk P t2) σ (fr.ev s) (fr.ev x) k⟩):=_root_.id rfl
@[go_sem] theorem Asp{x:Operand}{t:TypeId}:aOp P (.call {callee:=.builtin .cap,args:=#[x],argTypes:=#[t]}) fr σ k=aCap (tk P t) (fr.ev x) (@hid _ ⟨fun v=>k v σ⟩):=_root_.id rfl
@[go_sem] theorem Aq9{ag byt:Bool}{sz q eby:Nat}{zr ez:List Value}{ad:Option Addr}{n c:Nat}:aCap (some ⟨ag,sz,zr,.sl q eby ez byt⟩) (.v (.slice ad n c)) K=K (.v (.int .i64 c)):=_root_.id rfl
@[go_sem] theorem Ap7{x y:Operand}{t t2:TypeId}:aOp P (.call {callee:=.builtin .copy,args:=#[x,y],argTypes:=#[t,t2]}) fr σ k=Q5 (tk P t) σ (fr.ev x) (fr.ev y) k:=_root_.id rfl
@[go_sem] theorem Asv{x y:Operand}{ts:Array TypeId}:aOp P (.call {callee:=.builtin .min,args:=#[x,y],argTypes:=ts}) fr σ k=aMin (fr.ev x) (fr.ev y) (@hid _ ⟨fun v=>k v σ⟩):=_root_.id rfl
@[go_sem] theorem Asu{x y:Operand}{ts:Array TypeId}:aOp P (.call {callee:=.builtin .max,args:=#[x,y],argTypes:=ts}) fr σ k=aMax (fr.ev x) (fr.ev y) (@hid _ ⟨fun v=>k v σ⟩):=_root_.id rfl
@[go_sem] theorem Asg{i j:IntKind}{x y:Int}:aMin (.v (.int i x)) (.v (.int j y)) K=K (.v (.int i (min x y))):=_root_.id rfl
@[go_sem] theorem Asf{i j:IntKind}{x y:Int}:aMax (.v (.int i x)) (.v (.int j y)) K=K (.v (.int i (max x y))):=_root_.id rfl
@[go_sem] theorem An7{ik:IntKind}{x y:Int}:D9 .shl ik x y K=(0≤y∧K (.v (.int ik (ik.wrap (x*2^min y.toNat ik.bits))))):=_root_.id rfl
@[go_sem] theorem An8{ik:IntKind}{x y:Int}:D9 .shr ik x y K=(0≤y∧K (.v (.int ik (x.fdiv (2^min y.toNat ik.bits))))):=_root_.id rfl
@[go_sem] theorem Aon{x:Operand}{t:TypeId}:aOp P (.call {callee:=.builtin .clear,args:=#[x],argTypes:=#[t]}) fr σ k=aClear (tk P t) σ (fr.ev x) k:=_root_.id rfl
@[go_sem] theorem Alm{i:TK}{a c:Nat}{q eby:Nat}{ez:List Value}{byt ag:Bool}{sz:Nat}{zr:List Value}:aClear (some ⟨ag,sz,zr,.sl q eby ez byt⟩) σ (.v (.slice none a c)) k=k (.tup []) σ:=_root_.id rfl
@[go_sem] theorem Amh{x y:Operand}{t t2:TypeId}:aOp P (.call {callee:=.builtin .delete,args:=#[x,y],argTypes:=#[t,t2]}) fr σ k=Hy P (tk P t) σ (fr.ev x) (fr.ev y) k:=_root_.id rfl
@[go_sem] theorem Aqc{t:TypeId}{x y:Operand}{ok:Bool}:aOp P (.lookup t x y ok) fr σ k=Ke P (tk P t) σ (fr.ev x) (fr.ev y) ok (@hid _ ⟨fun v=>k v σ⟩):=_root_.id rfl
@[go_sem] theorem Ami{t:TypeId}{m x y:Operand}:aOp P (.mapUpdate t m x y) fr σ k=Hz P (tk P t) σ (fr.ev m) (fr.ev x) (fr.ev y) (@hid _ ⟨fun σ'=>k (.v undef) σ'⟩):=_root_.id rfl
@[go_sem] theorem Asw{t:TypeId}{x:Operand}:aOp P (.makeInterface t x) fr σ k=aMkI P t (fr.ev x) (@hid _ ⟨fun v=>k v σ⟩):=_root_.id rfl
@[go_sem] theorem Asz{t u:TypeId}{x:Operand}:aOp P (.typeAssert x t u false) fr σ k=aTyA P u (fr.ev x) (@hid _ ⟨fun v=>k v σ⟩):=_root_.id rfl
@[go_sem] theorem Ash{t:TypeId}{y:Value}:aMkI P t (.v y) K=(I6 P t=true∧K (.v (.iface t y))):=_root_.id rfl
@[go_sem] theorem Auc{u t:TypeId}{y:Value}:aTyA P u (.v (.iface t y)) K=(I6 P u=true∧t=u∧K (.v y)):=_root_.id rfl
def Am0(kd:TD)(z:AV)(ob:Option Bn)(x:Value)(ok:Bool)(K:AV→Prop):Prop:=
 match ob with
 |some (.map kv)=>Ja kd x=true∧(∀p∈kv,Ja kd p.1=true)∧match Nq x kv with
  |some u=>K (if ok then .tup [u,.v (.bool true)]else u)
  |none=>K (if ok then .tup [z,.v (.bool false)]else z)
 |_=>False
def aNew(σ:St)(t:Bn)(k:AV→St→Prop):Prop:=∀b,σ b=none→k (.v (.pointer (some ⟨b,0,none⟩))) (σ.set b t)
theorem Al{t:Bn}(h:∀b,σ b=none→(∀x o,σ x=some o→x≠b)→k (.v (.pointer (some ⟨b,0,none⟩))) (σ.set b t)):aNew σ t k:=
 fun b hb=>h b hb fun x o hx e=>by subst e;rw[hb]at hx;cases hx
@[go_sem] theorem Aqi{x y:AV}:Hf (.v (.bool true)) x y K=K x:=by simp[Hf]
@[go_sem] theorem Aqh{x y:AV}:Hf (.v (.bool false)) x y K=K y:=by simp[Hf]
@[go_sem] theorem Am1{i:TK}:Ik (some i) σ k=aNew σ (.cells (i.zr.map .v)) k:=_root_.id rfl
@[go_sem] theorem Aq8{x:AV}:aBox x σ k=(x.cells.all AV.one=true∧aNew σ (.cells x.cells) k):=_root_.id rfl
@[go_sem] theorem Al0{ag:Bool}{sz:Nat}{zr:List Value}{fs:List (Nat×Nat×Bool)}{ps:List (Nat×AV)}:Fz (some ⟨ag,sz,zr,.st fs⟩) ps K=Ez (@hid _ ⟨fun j=>(fs[j]?).map fun f=>(f.1,f.2.1)⟩) K (zr.map .v) ps:=_root_.id rfl
@[go_sem] theorem Ali{ag:Bool}{sz n esz:Nat}{eag:Bool}{zr:List Value}{ps:List (Nat×AV)}:Fz (some ⟨ag,sz,zr,.arr n esz eag⟩) ps K=Ez (@hid _ ⟨fun j=>some (j*esz,esz)⟩) K (zr.map .v) ps:=_root_.id rfl
@[go_sem] theorem Amc{fs:Nat→Option (Nat×Nat)}{cs:List AV}:Ez fs K cs []=K (.agg cs):=_root_.id rfl
def W6(q:Option (Nat×Nat))(cs:List AV)(x:List AV)(k:List AV→Prop):Prop:=
 match q with
 |some (off,sz)=>x.length=sz∧off+sz≤cs.length∧k (Au cs off x)
 |none=>False
@[go_sem] theorem Aor{off sz:Nat}{cs x:List AV}{k:List AV→Prop}:W6 (some (off,sz)) cs x k=(x.length=sz∧off+sz≤cs.length∧k (Au cs off x)):=_root_.id rfl
@[go_sem] theorem Alo{fs:Nat→Option (Nat×Nat)}{cs:List AV}{j:Nat}{x:AV}{r:List (Nat×AV)}:Ez fs K cs ((j,x)::r)=W6 (fs j) cs x.cells (@hid _ ⟨fun cs'=>Ez fs K cs' r⟩):=by
 simp only[Ez,W6,hid];cases fs j with
 |none=>rfl
 |some q=>rfl
@[go_sem] theorem Alz{ag:Bool}{sz esz eby:Nat}{zr ez:List Value}{byt:Bool}{n:Nat}{ps:List (Nat×AV)}:Eu (some ⟨ag,sz,zr,.sl esz eby ez byt⟩) n ps K=(0<esz∧n*esz≤16777216∧ez.all Value.oneCell'=true∧Fg esz (@hid _ ⟨fun es=>K (.fsl esz es)⟩) (List.replicate n (ez.map .v)) ps):=_root_.id rfl
@[go_sem] theorem Aln{q:Nat}{k:List (List AV)→Prop}{es:List (List AV)}:Fg q k es []=k es:=_root_.id rfl
@[go_sem] theorem Akq{q:Nat}{k:List (List AV)→Prop}{es:List (List AV)}{j:Nat}{x:AV}{r:List (Nat×AV)}:Fg q k es ((j,x)::r)=(j<es.length∧x.cells.length=q∧x.cells.all AV.one=true∧Fg q k (es.set j x.cells) r):=_root_.id rfl
def Il(ag:Bool)(sz o:Nat)(cs:List AV)(K:AV→Prop):Prop:=if ag then o+sz≤cs.length∧K (.agg ((cs.drop o).take sz))else o<cs.length∧K (cs.getD o (.v undef))
def W5(ag:Bool)(sz o:Nat)(t:Option Bn)(K:AV→Prop):Prop:=
 match t with
 |some (.cells cs)=>Il ag sz o cs K
 |_=>False
def Sn(ag:Bool)(sz q j f:Nat)(t:Option Bn)(K:AV→Prop):Prop:=
 match t with
 |some (.rows q' es _ _)=>q'=q∧j<es.length∧(if ag then f+sz≤q∧K (.agg (((es.getD j []).drop f).take sz))else f<q∧K ((es.getD j []).getD f (.v undef)))
 |_=>False
@[go_sem] theorem Ap2{ag:Bool}{sz:Nat}{zr:List Value}{td:TD}{b o:Nat}:B8 (some ⟨ag,sz,zr,td⟩) σ (.v (.pointer (some ⟨b,o,none⟩))) K=W5 ag sz o (σ b) K:=by
 simp only[B8,W5];cases σ b with
 |none=>rfl
 |some t=>cases t<;>rfl
@[go_sem] theorem Aoh{ag:Bool}{sz:Nat}{zr:List Value}{td:TD}{cs:List AV}:B8 (some ⟨ag,sz,zr,td⟩) σ (.fp cs) K=Il ag sz 0 cs K:=by
 simp[B8,Il]
@[go_sem] theorem Aoi{ag:Bool}{sz:Nat}{zr:List Value}{td:TD}{b q j f:Nat}:B8 (some ⟨ag,sz,zr,td⟩) σ (.rp b q j f) K=Sn ag sz q j f (σ b) K:=by
 simp only[B8,Sn];cases σ b with
 |none=>rfl
 |some t=>cases t<;>rfl
@[go_sem] theorem Aof{ag:Bool}{sz o:Nat}{cs:List AV}:W5 ag sz o (some (.cells cs)) K=Il ag sz o cs K:=_root_.id rfl
def Mp(ag:Bool)(sz f q:Nat)(cs:List AV)(K:AV→Prop):Prop:=if ag then f+sz≤q∧K (.agg ((cs.drop f).take sz))else f<q∧K (cs.getD f (.v undef))
@[go_sem] theorem Aog{ag:Bool}{sz q j f:Nat}{es:List (List AV)}{frz:Bool}{cap:Nat}:Sn ag sz q j f (some (.rows q es frz cap)) K=(j<es.length∧Mp ag sz f q (es.getD j []) K):=by
 simp[Sn,Mp]
@[go_sem] theorem Am7{sz o:Nat}{cs:List AV}:Il true sz o cs K=(o+sz≤cs.length∧K (.agg ((cs.drop o).take sz))):=by simp[Il]
@[go_sem] theorem Am8{sz o:Nat}{cs:List AV}:Il false sz o cs K=(o<cs.length∧K (cs.getD o (.v undef))):=by simp[Il]
@[go_sem] theorem Al1{sz f q:Nat}{cs:List AV}:Mp true sz f q cs K=(f+sz≤q∧K (.agg ((cs.drop f).take sz))):=by simp[Mp]
@[go_sem] theorem Al2{sz f q:Nat}{cs:List AV}:Mp false sz f q cs K=(f<q∧K (cs.getD f (.v undef))):=by simp[Mp]
def Sp(sz b o:Nat)(t:Option Bn)(σ:St)(x:List AV)(k:St→Prop):Prop:=
 match t with
 |some (.cells cs)=>o+sz≤cs.length∧k (σ.set b (.cells (Au cs o x)))
 |_=>False
def N5(sz b q j f:Nat)(t:Option Bn)(σ:St)(x:List AV)(k:St→Prop):Prop:=
 match t with
 |some (.rows q' es false cap)=>q'=q∧j<es.length∧f+sz≤q∧k (σ.set b (.rows q (es.set j (Au (es.getD j []) f x)) false cap))
 |_=>False
@[go_sem] theorem Ao0{ag:Bool}{sz:Nat}{zr:List Value}{td:TD}{b o:Nat}{x:AV}{k:St→Prop}:Ek (some ⟨ag,sz,zr,td⟩) σ (.v (.pointer (some ⟨b,o,none⟩))) x k=(x.cells.length=sz∧x.cells.all AV.one=true∧Sp sz b o (σ b) σ x.cells k):=by
 simp only[Ek,Sp];cases σ b with
 |none=>rfl
 |some t=>cases t<;>rfl
@[go_sem] theorem Ams{ag:Bool}{sz:Nat}{zr:List Value}{td:TD}{b q j f:Nat}{x:AV}{k:St→Prop}:Ek (some ⟨ag,sz,zr,td⟩) σ (.rp b q j f) x k=(x.cells.length=sz∧x.cells.all AV.one=true∧N5 sz b q j f (σ b) σ x.cells k):=by
 simp only[Ek,N5];cases σ b with
 |none=>rfl
 |some t=>
  cases t with
  |rows _ _ frz _=>cases frz<;>rfl
  |_=>rfl
@[go_sem] theorem Amq{sz b o:Nat}{cs x:List AV}{k:St→Prop}:Sp sz b o (some (.cells cs)) σ x k=(o+sz≤cs.length∧k (σ.set b (.cells (Au cs o x)))):=_root_.id rfl
@[go_sem] theorem Amr{sz b q j f:Nat}{es:List (List AV)}{cap:Nat}{x:List AV}{k:St→Prop}:N5 sz b q j f (some (.rows q es false cap)) σ x k=(j<es.length∧f+sz≤q∧k (σ.set b (.rows q (es.set j (Au (es.getD j []) f x)) false cap))):=by
 simp[N5]
@[go_sem] theorem Asj{ad:Addr}:Mr (.v (.pointer (some ad))) K=K (.v (.pointer (some ad))):=_root_.id rfl
@[go_sem] theorem Asi{f:FuncId}{x y:Array Value}:Mr (.v (.func (.func f) x y)) K=K (.v (.func (.func f) x y)):=_root_.id rfl
@[go_sem] theorem Asl{l:Nat}{x y:Array Value}:Mr (.v (.func (.yield l) x y)) K=K (.v (.func (.yield l) x y)):=_root_.id rfl
@[go_sem] theorem Ap4{cs:List AV}:Mr (.fp cs) K=K (.fp cs):=_root_.id rfl
@[go_sem] theorem Ap5{b q i f:Nat}:Mr (.rp b q i f) K=K (.rp b q i f):=_root_.id rfl
def aFad(q:Option (Nat×Nat×Bool))(x:AV)(K:AV→Prop):Prop:=
 match q with
 |some (off,sz,_)=>0<sz∧match x with
  | .v (.pointer (some ⟨b,p,none⟩))=>K (.v (.pointer (some ⟨b,p+off,none⟩)))
  | .fp cs=>off≤cs.length∧K (.fp (cs.drop off))
  | .rp b q j g=>K (.rp b q j (g+off))
  |_=>False
 |none=>False
@[go_sem] theorem Apq{ag:Bool}{sz f:Nat}{zr:List Value}{fs:List (Nat×Nat×Bool)}{x:AV}:Gu (some ⟨ag,sz,zr,.st fs⟩) f x K=aFad (fs[f]?) x K:=by
 simp only[Gu,aFad];cases fs[f]? with
 |none=>rfl
 |some q=>rfl
@[go_sem] theorem Arz{off sz:Nat}{ag:Bool}{b p:Nat}:aFad (some (off,sz,ag)) (.v (.pointer (some ⟨b,p,none⟩))) K=(0<sz∧K (.v (.pointer (some ⟨b,p+off,none⟩)))):=_root_.id rfl
@[go_sem] theorem Apo{off sz:Nat}{ag:Bool}{cs:List AV}:aFad (some (off,sz,ag)) (.fp cs) K=(0<sz∧off≤cs.length∧K (.fp (cs.drop off))):=_root_.id rfl
@[go_sem] theorem App{off sz:Nat}{ag:Bool}{b q j g:Nat}:aFad (some (off,sz,ag)) (.rp b q j g) K=(0<sz∧K (.rp b q j (g+off))):=_root_.id rfl
def aFl(q:Option (Nat×Nat×Bool))(x:AV)(K:AV→Prop):Prop:=
 match q with
 |some (off,sz,ag)=>match x with
  | .agg cs=>Il ag sz off cs K
  |_=>False
 |none=>False
@[go_sem] theorem Ar1{ag:Bool}{sz f:Nat}{zr:List Value}{fs:List (Nat×Nat×Bool)}{x:AV}:Lb (some ⟨ag,sz,zr,.st fs⟩) f x K=aFl (fs[f]?) x K:=by
 simp only[Lb,aFl];cases fs[f]? with
 |none=>rfl
 |some q=>cases x<;>rfl
@[go_sem] theorem fl_a{off sz:Nat}{ag:Bool}{cs:List AV}:aFl (some (off,sz,ag)) (.agg cs) K=Il ag sz off cs K:=_root_.id rfl
section
variable{ag eag:Bool}{sz n esz eby:Nat}{zr ez:List Value}{byt:Bool}{ik:IntKind}{j:Int}
@[go_sem] theorem Apy{b p:Nat}:Dy (some ⟨ag,sz,zr,.arr n esz eag⟩) σ (.v (.pointer (some ⟨b,p,none⟩))) (.v (.int ik j)) K=(0≤j∧j<n∧K (.v (.pointer (some ⟨b,p+j.toNat*esz,none⟩)))):=_root_.id rfl
@[go_sem] theorem Anq{cs:List AV}:Dy (some ⟨ag,sz,zr,.arr n esz eag⟩) σ (.fp cs) (.v (.int ik j)) K=(0≤j∧j<n∧j.toNat*esz≤cs.length∧K (.fp (cs.drop (j.toNat*esz)))):=_root_.id rfl
@[go_sem] theorem Anr{b q r f:Nat}:Dy (some ⟨ag,sz,zr,.arr n esz eag⟩) σ (.rp b q r f) (.v (.int ik j)) K=(0≤j∧j<n∧K (.rp b q r (f+j.toNat*esz))):=_root_.id rfl
@[go_sem] theorem Ans{q:Nat}{es:List (List AV)}:Dy (some ⟨ag,sz,zr,.sl esz eby ez byt⟩) σ (.sl q es) (.v (.int ik j)) K=(q=esz∧0≤j∧j<es.length∧K (.fp (es.getD j.toNat []))):=_root_.id rfl
@[go_sem] theorem Ame{q:Nat}{es:List (List AV)}:Dy (some ⟨ag,sz,zr,.sl esz eby ez byt⟩) σ (.fsl q es) (.v (.int ik j)) K=(q=esz∧0≤j∧j<es.length∧K (.fp (es.getD j.toNat []))):=_root_.id rfl
@[go_sem] theorem Apz{b m c:Nat}:Dy (some ⟨ag,sz,zr,.sl esz eby ez byt⟩) σ (.v (.slice (some ⟨b,0,none⟩) m c)) (.v (.int ik j)) K=(0≤j∧j<m∧K (.rp b esz j.toNat 0)):=by simp[Dy]
@[go_sem] theorem Ant{cs:List AV}:Om (some ⟨ag,sz,zr,.arr n esz eag⟩) (.agg cs) (.v (.int ik j)) K=(0≤j∧j<n∧Il eag esz (j.toNat*esz) cs K):=_root_.id rfl
@[go_sem] theorem Anu{s:ByteArray}:Om (some ⟨ag,sz,zr,.str⟩) (.v (.string s)) (.v (.int ik j)) K=(0≤j∧j<s.size∧K (.v (.int .u8 (s.data.toList.getD j.toNat 0).toNat))):=_root_.id rfl
@[go_sem] theorem Aru{vs:List AV}{i:Nat}:Ff (.tup vs) i K=(i<vs.length∧K (vs.getD i (.v undef))):=_root_.id rfl
@[go_sem] theorem Aod{s:ByteArray}:Im (some ⟨ag,sz,zr,.str⟩) (.v (.string s)) K=K (.v (.int .i64 s.size)):=_root_.id rfl
@[go_sem] theorem Ap0{q:Nat}{es:List (List AV)}:Im (some ⟨ag,sz,zr,.sl esz eby ez byt⟩) (.sl q es) K=K (.v (.int .i64 es.length)):=_root_.id rfl
@[go_sem] theorem Aoc{q:Nat}{es:List (List AV)}:Im (some ⟨ag,sz,zr,.sl esz eby ez byt⟩) (.fsl q es) K=K (.v (.int .i64 es.length)):=_root_.id rfl
@[go_sem] theorem Ase{a:Option Addr}{m c:Nat}:Im (some ⟨ag,sz,zr,.sl esz eby ez byt⟩) (.v (.slice a m c)) K=K (.v (.int .i64 m)):=_root_.id rfl
@[go_sem] theorem Aob{x:AV}:Im (some ⟨ag,sz,zr,.arr n esz eag⟩) x K=K (.v (.int .i64 n)):=_root_.id rfl
@[go_sem] theorem Al8{i':IntKind}{ag':Bool}{sz':Nat}{zr':List Value}{i'':IntKind}:Hd (some ⟨ag,sz,zr,.int i'⟩) (some ⟨ag',sz',zr',.int i''⟩) σ (.v (.int ik j)) k=k (.v (.int i'' (i''.wrap j))) σ:=_root_.id rfl
@[go_sem] theorem Al9{ag':Bool}{sz':Nat}{zr':List Value}{s:ByteArray}:Hd (some ⟨ag,sz,zr,.str⟩) (some ⟨ag',sz',zr',.str⟩) σ (.v (.string s)) k=k (.v (.string s)) σ:=_root_.id rfl
@[go_sem] theorem Anb{ag':Bool}{sz':Nat}{zr':List Value}{x:AV}:Hd (some ⟨ag,sz,zr,.sl 1 eby ez true⟩) (some ⟨ag',sz',zr',.str⟩) σ x k=∃es,Ml 1 σ x=some es∧es.all Kx=true∧k (.v (.string (Qj es))) σ:=by
 cases x<;>rfl
end
def band(k:IntKind)(x y:Int):Int:=k.wrap ((BitVec.ofInt k.bits x&&&BitVec.ofInt k.bits y).toNat:Int)
def bxor(k:IntKind)(x y:Int):Int:=k.wrap ((BitVec.ofInt k.bits x^^^BitVec.ofInt k.bits y).toNat:Int)
@[go_sem] theorem Am3{op:BinOp}{t:TypeId}{ik:IntKind}{x y:Int}:C2 P op t (.v (.int ik x)) (.v (.int ik y)) K=D9 op ik x y K:=by simp[C2]
@[go_sem] theorem Am4{t:TypeId}{ik ik':IntKind}{x y:Int}:C2 P .shl t (.v (.int ik x)) (.v (.int ik' y)) K=D9 .shl ik x y K:=by simp[C2,isSh]
@[go_sem] theorem Am5{t:TypeId}{ik ik':IntKind}{x y:Int}:C2 P .shr t (.v (.int ik x)) (.v (.int ik' y)) K=D9 .shr ik x y K:=by simp[C2,isSh]
@[go_sem] theorem Apc{t:TypeId}{f:Fn}{a b:Array Value}:C2 P .eql t (.v (.func f a b)) (.v .nilFunc) K=(isFn P t=true∧K (.v (.bool false))):=_root_.id rfl
@[go_sem] theorem Apd{t:TypeId}{f:Fn}{a b:Array Value}:C2 P .neq t (.v (.func f a b)) (.v .nilFunc) K=(isFn P t=true∧K (.v (.bool true))):=_root_.id rfl
@[go_sem] theorem Ao8{t:TypeId}{xs ys:List AV}:C2 P .eql t (.agg xs) (.agg ys) K=Nw P false t (.agg xs) (.agg ys) K:=_root_.id rfl
@[go_sem] theorem Ao9{t:TypeId}{xs ys:List AV}:C2 P .neq t (.agg xs) (.agg ys) K=Nw P true t (.agg xs) (.agg ys) K:=_root_.id rfl
@[go_sem] theorem Ao3{x y:ByteArray}:Iq .gtr x y K=K (.v (.bool (!(Op.bytesLess x.toList y.toList||decide (x=y))))):=_root_.id rfl
theorem Sq{neg:Bool}{t:TypeId}{x y:AV}{xs ys:List AV}{vs ws:List Value}{ls:List Co}(e5:Eb P 9 t=some ls)(h1:Lf P t=true)(h2:P.eqGuardType P.depth t=false)(e1:aggV x=some xs)(e2:aggV y=some ys)(e3:N4 xs=some vs)(e4:N4 ys=some ws)(e6:Fit ls vs=true)(e7:Fit ls ws=true)
  (hk:K (.v (.bool (if neg then !eqL vs ws else eqL vs ws)))):Nw P neg t x y K:=⟨h1,h2,xs,ys,vs,ws,ls,e1,e2,e3,e4,e5,e6,e7,hk⟩
@[go_sem] theorem Am6{op:BinOp}{t:TypeId}{x y:ByteArray}:C2 P op t (.v (.string x)) (.v (.string y)) K=Iq op x y K:=_root_.id rfl
@[go_sem] theorem Apa{t:TypeId}{x y:Bool}:C2 P .eql t (.v (.bool x)) (.v (.bool y)) K=(M8 P t=true∧K (.v (.bool (decide (x=y))))):=_root_.id rfl
@[go_sem] theorem Apb{t:TypeId}{x y:Bool}:C2 P .neq t (.v (.bool x)) (.v (.bool y)) K=(M8 P t=true∧K (.v (.bool (decide (x≠y))))):=_root_.id rfl
@[go_sem] theorem Api{t:TypeId}{p:Option Addr}:C2 P .eql t (.v (.pointer p)) (.v (.pointer none)) K=(Df P t=true∧K (.v (.bool p.isNone))):=by cases p<;>rfl
@[go_sem] theorem Apj{t:TypeId}{p:Option Addr}:C2 P .neq t (.v (.pointer p)) (.v (.pointer none)) K=(Df P t=true∧K (.v (.bool p.isSome))):=by cases p<;>rfl
@[go_sem] theorem Apk{t:TypeId}{p:Option Addr}{m c:Nat}:C2 P .eql t (.v (.slice p m c)) (.v (.slice none 0 0)) K=(Du P t=true∧K (.v (.bool p.isNone))):=_root_.id rfl
@[go_sem] theorem Apl{t:TypeId}{p:Option Addr}{m c:Nat}:C2 P .neq t (.v (.slice p m c)) (.v (.slice none 0 0)) K=(Du P t=true∧K (.v (.bool p.isSome))):=_root_.id rfl
@[go_sem] theorem Ape{t:TypeId}{q:Nat}{es:List (List AV)}:C2 P .eql t (.sl q es) (.v (.slice none 0 0)) K=(Du P t=true∧(es≠[]→K (.v (.bool false)))∧(es=[]→∀b,K (.v (.bool b)))):=_root_.id rfl
@[go_sem] theorem Apf{t:TypeId}{q:Nat}{es:List (List AV)}:C2 P .neq t (.sl q es) (.v (.slice none 0 0)) K=(Du P t=true∧(es≠[]→K (.v (.bool true)))∧(es=[]→∀b,K (.v (.bool b)))):=_root_.id rfl
@[go_sem] theorem Apg{t:TypeId}{p:Option Nat}:C2 P .eql t (.v (.map p)) (.v (.map none)) K=(Ps P t=true∧K (.v (.bool p.isNone))):=_root_.id rfl
@[go_sem] theorem Aph{t:TypeId}{p:Option Nat}:C2 P .neq t (.v (.map p)) (.v (.map none)) K=(Ps P t=true∧K (.v (.bool p.isSome))):=_root_.id rfl
@[go_sem] theorem Anv{ik:IntKind}{x y:Int}:D9 .add ik x y K=K (.v (.int ik (ik.wrap (x+y)))):=_root_.id rfl
@[go_sem] theorem An9{ik:IntKind}{x y:Int}:D9 .sub ik x y K=K (.v (.int ik (ik.wrap (x-y)))):=_root_.id rfl
@[go_sem] theorem An3{ik:IntKind}{x y:Int}:D9 .mul ik x y K=K (.v (.int ik (ik.wrap (x*y)))):=_root_.id rfl
@[go_sem] theorem An5{ik:IntKind}{x y:Int}:D9 .quo ik x y K=(y≠0∧K (.v (.int ik (ik.wrap (x.tdiv y))))):=_root_.id rfl
@[go_sem] theorem An6{ik:IntKind}{x y:Int}:D9 .rem ik x y K=(y≠0∧K (.v (.int ik (x.tmod y)))):=_root_.id rfl
@[go_sem] theorem Anx{ik:IntKind}{x y:Int}:D9 .eql ik x y K=K (.v (.bool (decide (x=y)))):=_root_.id rfl
@[go_sem] theorem An4{ik:IntKind}{x y:Int}:D9 .neq ik x y K=K (.v (.bool (!decide (x=y)))):=by simp[D9]
@[go_sem] theorem An2{ik:IntKind}{x y:Int}:D9 .lss ik x y K=K (.v (.bool (decide (x<y)))):=_root_.id rfl
@[go_sem] theorem An1{ik:IntKind}{x y:Int}:D9 .leq ik x y K=K (.v (.bool (decide (x≤y)))):=_root_.id rfl
@[go_sem] theorem An0{ik:IntKind}{x y:Int}:D9 .gtr ik x y K=K (.v (.bool (decide (y<x)))):=_root_.id rfl
@[go_sem] theorem Anz{ik:IntKind}{x y:Int}:D9 .geq ik x y K=K (.v (.bool (decide (y≤x)))):=_root_.id rfl
@[go_sem] theorem Anw{ik:IntKind}{x y:Int}:D9 .and ik x y K=K (.v (.int ik (band ik x y))):=_root_.id rfl
@[go_sem] theorem Aoa{ik:IntKind}{x y:Int}:D9 .xor ik x y K=K (.v (.int ik (bxor ik x y))):=_root_.id rfl
@[go_sem] theorem Aq7{ik:IntKind}{x:Int}:aUn .xor (.v (.int ik x)) K=K (.v (.int ik (bxor ik (if ik.signed then-1 else ik.max) x))):=_root_.id rfl
@[go_sem] theorem Ao2{x y:ByteArray}:Iq .eql x y K=K (.v (.bool (decide (x=y)))):=_root_.id rfl
@[go_sem] theorem Ao5{x y:ByteArray}:Iq .neq x y K=K (.v (.bool (!decide (x=y)))):=by simp[Iq]
@[go_sem] theorem Ao4{x y:ByteArray}:Iq .lss x y K=K (.v (.bool (Op.bytesLess x.toList y.toList))):=_root_.id rfl
@[go_sem] theorem Ao1{x y:ByteArray}:Iq .add x y K=(x.size+y.size≤9223372036854775807∧K (.v (.string (x++y)))):=_root_.id rfl
@[go_sem] theorem Aq6{b:Bool}:aUn .not (.v (.bool b)) K=K (.v (.bool (!b))):=_root_.id rfl
@[go_sem] theorem Aq5{ik:IntKind}{x:Int}:aUn .neg (.v (.int ik x)) K=K (.v (.int ik (ik.wrap (0-x)))):=_root_.id rfl
end
@[go_sem] theorem Anf{ev:Operand→AV}:evs ev []=[]:=_root_.id rfl
@[go_sem] theorem Ama{ev:Operand→AV}{j:Nat}{x:Operand}{l:List (Nat×Operand)}:evs ev ((j,x)::l)=(j,ev x)::evs ev l:=_root_.id rfl
@[go_sem] theorem Am9{x:Value}(h:x.oneCell'=true):AV.cells (.v x)=[.v x]:=by cases x<;>first|rfl|cases h
@[go_sem] theorem Alj{cs:List AV}:AV.cells (.agg cs)=cs:=_root_.id rfl
@[go_sem] theorem Al3{q:Nat}{es:List (List AV)}:AV.cells (.sl q es)=[.sl q es]:=_root_.id rfl
@[go_sem] theorem Alk{q:Nat}{es:List (List AV)}:AV.cells (.fsl q es)=[.fsl q es]:=_root_.id rfl
@[go_sem] theorem As0{x:Value}:AV.one (.v x)=x.oneCell':=_root_.id rfl
@[go_sem] theorem Aqg{q:Nat}{es:List (List AV)}:AV.one (.sl q es)=true:=_root_.id rfl
@[go_sem] theorem Aop{q:Nat}{es:List (List AV)}:AV.one (.fsl q es)=true:=_root_.id rfl
@[go_sem] theorem oc1{k:IntKind}{x:Int}:(Value.int k x).oneCell'=true:=_root_.id rfl
@[go_sem] theorem oc2{x:Bool}:(Value.bool x).oneCell'=true:=_root_.id rfl
@[go_sem] theorem oc3{x:ByteArray}:(Value.string x).oneCell'=true:=_root_.id rfl
@[go_sem] theorem oc4{x:Option Addr}:(Value.pointer x).oneCell'=true:=_root_.id rfl
@[go_sem] theorem oc5{x:Option Addr}{l c:Nat}:(Value.slice x l c).oneCell'=true:=_root_.id rfl
@[go_sem] theorem oc6{x:Option Nat}:(Value.map x).oneCell'=true:=_root_.id rfl
@[go_sem] theorem oc7{f:Fn}{x y:Array Value}:(Value.func f x y).oneCell'=true:=_root_.id rfl
@[go_sem] theorem oc8:Value.nilFunc.oneCell'=true:=_root_.id rfl
@[go_sem] theorem oc9:Value.nilIface.oneCell'=true:=_root_.id rfl
@[go_sem] theorem Alp{ag:Bool}{sz esz eby:Nat}{zr ez:List Value}{byt:Bool}:K0 (some ⟨ag,sz,zr,.sl esz eby ez byt⟩)=true:=_root_.id rfl
@[go_sem] theorem Akx{ag:Bool}{sz:Nat}{zr:List Value}{q:IntKind}:K0 (some ⟨ag,sz,zr,.int q⟩)=false:=_root_.id rfl
@[go_sem] theorem Aky{ag:Bool}{sz:Nat}{zr:List Value}:K0 (some ⟨ag,sz,zr,.str⟩)=true:=_root_.id rfl
@[go_sem] theorem Aoy{fr:Fr}{σ:St}{t:Nat}:Bj P fr σ [.tmp t]=some (fr t):=_root_.id rfl
@[go_sem] theorem Aoz{fr:Fr}{σ:St}{t u:Nat}:Bj P fr σ [.tmp t,.tmp u]=some (.tup [fr t,fr u]):=_root_.id rfl
@[go_sem] theorem Alw{fr:Fr}{σ:St}{t u v:Nat}:Bj P fr σ [.tmp t,.tmp u,.tmp v]=some (.tup [fr t,fr u,fr v]):=_root_.id rfl
@[go_sem] theorem Amp{fr:Fr}{σ:St}:Bj P fr σ []=some (.tup []):=_root_.id rfl
theorem Ac{Q:AV→St→Prop}{l:List ResultVar}{fr:Fr}{σ:St}{r:AV}(h:Bj P fr σ l=some r)(hq:Q r σ):Fp P Q l fr σ:=⟨r,h,r,σ,Ey.refl σ r,hq⟩
theorem Ae{Q:AV→St→Prop}{l:List ResultVar}{fr:Fr}{σ:St}{r:AV}(h:Bj P fr σ l=some r)(r':AV)(σ':St)(hv:Ey σ r σ' r')(hq:Q r' σ'):Fp P Q l fr σ:=⟨r,h,r',σ',hv,hq⟩
@[go_sem] theorem Ab{σ:St}{b:Nat}{o:Bn}:(σ.set b o) b=some o:=by simp[St.set]
@[go_sem] theorem Ad{σ:St}{b x:Nat}{o:Bn}(h:x≠b):(σ.set b o) x=σ x:=by simp[St.set,h]
@[go_sem] theorem B5{σ:St}{b:Nat}{o o':Bn}:(σ.set b o).set b o'=σ.set b o':=by
 funext x;simp only[St.set];split<;>rfl
theorem Bv{σ:St}{b:Nat}{o:Bn}(h:σ b=some o):σ.set b o=σ:=by
 funext x;simp only[St.set];split
 ·rename_i hx;rw[hx,h]
 ·rfl
@[go_sem] theorem Ajs{c:AV}{cs xs:List AV}{o:Nat}:Au (c::cs) (o+1) xs=c::Au cs o xs:=by
 simp[Au,Nat.add_right_comm]
@[go_sem] theorem Ajt{cs xs:List AV}:Au cs 0 xs=xs++cs.drop xs.length:=by simp[Au]
end
attribute [go_sem] List.map_cons List.map_nil List.getD_cons_zero List.getD_cons_succ List.getElem?_cons_zero List.getElem?_cons_succ Option.map_some Option.map_none Option.isNone_some Option.isNone_none Option.isSome_some Option.isSome_none true_and and_true List.length_cons List.length_nil List.all_cons List.all_nil Bool.and_true Bool.true_and Bool.not_true Bool.not_false List.drop_zero List.drop_succ_cons List.drop_nil List.take_zero List.take_succ_cons List.take_nil List.cons_append List.nil_append List.append_nil decide_true decide_false List.replicate_succ List.replicate_zero List.set_cons_zero List.set_cons_succ
section
variable{P:Program}{ops:Array Oper}{K:Fr→St→Prop}
def Br(ops:Array Oper):Nat→Nat→Nat→Bool
 |0,_,_=>false
 |n+1,j,p=>match ops[j]? with
  |none=>false
  |some o=>o.after.any fun e=>Region.binds .any e&&(e.on==p||Br ops n e.on p)
abbrev J8:=Nat→(St→Prop)→Prop
def J8.add(S:J8)(i:Nat)(q:St→Prop):J8:=fun p r=>S p r∨(p=i∧r=q)
theorem Abx{S:J8}{i j:Nat}{q r:St→Prop}:(S.add i q).add j r=(S.add j r).add i q:=by
 funext p s;simp only[J8.add,eq_iff_iff];constructor
 ·rintro((h|h)|h)
  ·exact .inl (.inl h)
  ·exact .inr h
  ·exact .inl (.inr h)
 ·rintro((h|h)|h)
  ·exact .inl (.inl h)
  ·exact .inr h
  ·exact .inl (.inr h)
def Oq(P:Program)(ops:Array Oper)(i:Nat)(S:J8)(C:J8→Fr→St→Prop)(fr:Fr)(σ:St):Prop:=
 match ops[i]? with
 |none=>C S fr σ
 |some o=>aGd (Gf ops) fr o.guard
   (aOp P o.op fr σ fun v σ'=>if cls P o.op=2 then(∀p q,S p q→Br ops ops.size i p=false→q σ')∧C S (fr.put o.dst v) σ' else C (S.add i fun σ''=>Yl P o.op fr σ'' v) (fr.put o.dst v) σ')
   (C S (fr.put o.dst (.v undef)) σ)
def Nx(P:Program)(ops:Array Oper)(K:Fr→St→Prop):Nat→Array Bool→J8→Fr→St→Prop
 |0,L,S,fr,σ=>Region.ready .any ops L=[]∧K fr σ
 |n+1,L,S,fr,σ=>(Region.ready .any ops L=[]→K fr σ)∧∀i∈Region.ready .any ops L,Oq P ops i S (fun S' fr' σ'=>Nx P ops K n (L.setIfInBounds i true) S' fr' σ') fr σ
theorem On{b:Bool}{A B A' B':Prop}(h1:A→A')(h2:B→B')(h:aIf b A B):aIf b A' B':=by
 unfold aIf at h⊢;cases b
 ·exact h2 h
 ·exact h1 h
theorem F9{ds:List (Option Nat)}{fr:Fr}{g:Option (Nat×Bool)}{A B A' B':Prop}(h1:A→A')(h2:B→B')(h:aGd ds fr g A B):aGd ds fr g A' B':=by
 unfold aGd at h⊢;cases g with
 |none=>exact h1 h
 |some q=>
  obtain⟨j,want⟩:=q;simp only at h⊢;revert h;generalize ds.getD j none=z;cases z with
  |none=>exact fun h=>h
  |some d=>
   simp only;generalize fr d=x;cases x with
   |v y=>cases y with
    |bool b=>
     intro h;cases want
     ·have h:aIf b B A:=h
      show aIf b B' A';exact On h2 h1 h
     ·have h:aIf b A B:=h
      show aIf b A' B';exact On h1 h2 h
    |_=>exact h2
   |_=>exact fun h=>h
theorem Q7{i:Nat}{r:List Nat}{fr:Fr}{σ:St}:He P ops (i::r) K fr σ=(match ops[i]? with
  |none=>He P ops r K fr σ
  |some o=>aGd (Gf ops) fr o.guard (aOp P o.op fr σ fun v σ'=>He P ops r K (fr.put o.dst v) σ') (He P ops r K (fr.put o.dst (.v undef)) σ)):=rfl
theorem X5{i:Nat}{r:List Nat}{S:J8}{C:J8→Fr→St→Prop}{fr:Fr}{σ:St}(hC:∀S fr σ,C S fr σ→He P ops r K fr σ)(h:Oq P ops i S C fr σ):He P ops (i::r) K fr σ:=by
 rw[Q7];unfold Oq at h;split at h
 ·exact hC _ _ _ h
 ·refine F9 (fun h=>H0 _ _ (fun v σ' hv=>?_) h) (hC _ _ _) h
  split at hv
  ·exact hC _ _ _ hv.2
  ·exact hC _ _ _ hv
theorem W4:∀(n t:Nat) (L:Array Bool) (S:J8) (fr:Fr) (σ:St),Nx P ops K n L S fr σ→He P ops (Region.linearise.go .any ops n t L []) K fr σ:=by
 intro n
 induction n with
 |zero=>intro t L S fr σ h;simpa[Region.linearise.go,He]using h.2
 |succ n ih=>
  intro t L S fr σ h;obtain⟨h0,h1⟩:=h;simp only[Region.linearise.go]
  change He P ops (match(Region.ready .any ops L)[t %(Region.ready .any ops L).length]? with
   |some i=>Region.linearise.go .any ops n (t/(Region.ready .any ops L).length) (L.setIfInBounds i true) [i]
   |none=>[].reverse) K fr σ
  cases hi:(Region.ready .any ops L)[t %(Region.ready .any ops L).length]? with
  |none=>
   have hnil:Region.ready .any ops L=[]:=by
    cases hr:Region.ready .any ops L with
    |nil=>rfl
    |cons x xs=>
     rw[hr]at hi;have hlt:t %(x::xs).length<(x::xs).length:=Nat.mod_lt _ (by simp);simp at hi;simp at hlt;omega
   simpa[He]using h0 hnil
  |some i=>
   simp only[];rw[linearise_go_acc,List.reverse_singleton,List.singleton_append];exact X5 (fun S' fr' σ' h=>ih _ _ S' fr' σ' h) (h1 i (List.mem_of_getElem? hi))
theorem La(hm:P.follows .mixedOrders=true){fr:Fr}{σ:St}(h:Nx P ops K ops.size (Array.replicate ops.size false) (fun _ _=>False) fr σ):Ol P ops K fr σ:=by
 intro t;simp only[Region.schedule,hm,Bool.true_or,if_true];exact W4 ops.size t _ _ fr σ h
def Kj(ops:Array Oper)(L:Array Bool):Prop:=∀i o,L.getD i false=true→ops[i]? =some o→∀e∈o.after,Region.binds .any e=true→L.getD e.on false=true
theorem Kg{L:Array Bool}(hL:Kj ops L):∀(n j p:Nat),(∀o,ops[j]? =some o→∀e∈o.after,Region.binds .any e=true→L.getD e.on false=true)→Br ops n j p=true→L.getD p false=true
 |0,j,p,_,h=>by simp[Br]at h
 |n+1,j,p,hj,h=>by
  simp only[Br]at h;cases ho:ops[j]? with
  |none=>rw[ho]at h;cases h
  |some o=>
   rw[ho]at h;simp only[Array.any_eq_true,Bool.and_eq_true,Bool.or_eq_true,beq_iff_eq]at h;obtain⟨k,hk,h1,h2⟩:=h;have hl:=hj o ho _ (Array.getElem_mem hk) h1;rcases h2 with h2|h2
   ·rw[←h2];exact hl
   ·exact Kg hL n _ p (fun o' ho' e he hb=>hL _ o' hl ho' e he hb) h2
theorem K5{L:Array Bool}{i:Nat}(h:i∈Region.ready .any ops L):L.getD i true=false∧∃o,ops[i]? =some o∧∀e∈o.after,Region.binds .any e=true→L.getD e.on false=true:=by
 obtain⟨h1,o,h2,h3⟩:=mem_ready.1 h;exact⟨h1,o,h2,h3⟩
theorem C3{L:Array Bool}(hL:Kj ops L){i:Nat}(hi:i∈Region.ready .any ops L):Kj ops (L.setIfInBounds i true):=by
 intro j o hj ho e he hb;have grow:∀k,L.getD k false=true→(L.setIfInBounds i true).getD k false=true:=by
  intro k hk;by_cases h:i=k
  ·subst h
   rcases Nat.lt_or_ge i L.size with h'|h'
   ·simp[h']
   ·simp[Array.getElem?_eq_none h']at hk
  ·rw[getD_set_ne false h];exact hk
 by_cases h:i=j
 ·subst h
  obtain⟨_,o',ho',hall⟩:=K5 hi;have:o'=o:=by rw[ho]at ho';exact(Option.some.inj ho').symm
  subst this;exact grow _ (hall e he hb)
 ·rw[getD_set_ne false h]at hj
  exact grow _ (hL j o hj ho e he hb)
theorem Xo{x y:Oper}{fr:Fr}{v:AV}{A B:Prop}(h:∀d,x.dst=some d→d∉y.looksAt ops):aGd (Gf ops) (fr.put x.dst v) y.guard A B=aGd (Gf ops) fr y.guard A B:=by
 unfold aGd;cases hg:y.guard with
 |none=>rfl
 |some q=>
  obtain⟨j,want⟩:=q;simp only;have hds:(Gf ops).getD j none=(ops[j]?).bind (·.dst):=by
   simp only[Gf,List.getD_eq_getElem?_getD,List.getElem?_map,Array.getElem?_toList];cases ops[j]? <;>rfl
  cases hd:(ops[j]?).bind (·.dst)with
  |none=>rw[hds,hd]
  |some d=>
   rw[hds,hd];simp only;have:(fr.put x.dst v) d=fr d:=by
    have:=Ads (fr:=fr) (d:=x.dst) (v:=v) (x:=.tmp d) (fun t ht e=>by
     injection e with e;subst e;exact h d ht (by simp[Oper.looksAt,hg,hd]))
    exact this
   rw[this]
theorem X3{x y:Oper}{fr:Fr}{v:AV}{σ:St}{k:AV→St→Prop}(h:∀d,x.dst=some d→d∉y.looksAt ops):aOp P y.op (fr.put x.dst v) σ k=aOp P y.op fr σ k:=by
 refine Aa2 fun z hz=>Ads fun t ht e=>?_;subst e;refine h t ht ?_;simp only[Oper.looksAt,List.mem_append,List.mem_filterMap];exact .inl ⟨.tmp t,by simpa using hz,rfl⟩
theorem Yv{x y:Oper}{fr:Fr}{v u:AV}(h:∀d,x.dst=some d→d∉y.looksAt ops):(fun σ=>Yl P y.op (fr.put x.dst v) σ u)=fun σ=>Yl P y.op fr σ u:=by
 funext σ;unfold Yl;refine propext (forall_congr' fun k=>imp_congr_right fun _=>?_);rw[X3 h]
theorem Kr{i:Nat}{oi:Oper}{v:AV}(hi:ops[i]? =some oi)(hcls:cls P oi.op≠2):∀(n:Nat) (L:Array Bool) (S:J8) (fr:Fr) (σ:St),
  Kj ops L→
  (∀j oj,ops[j]? =some oj→j≠i→L.getD j true=false→(∀e∈oj.after,Region.binds .any e=true→e.on≠i)→oi.apart ops oj=true)→
  i∈Region.ready .any ops L→
  ((∀A B:Prop,A→aGd (Gf ops) fr oi.guard A B)∧Yl P oi.op fr σ v∧Nx P ops K n (L.setIfInBounds i true) (S.add i fun σ'=>Yl P oi.op fr σ' v) (fr.put oi.dst v) σ∨
    (∀A B:Prop,B→aGd (Gf ops) fr oi.guard A B)∧v= .v undef∧Nx P ops K n (L.setIfInBounds i true) S (fr.put oi.dst v) σ)→
  Nx P ops K (n+1) L S fr σ:=by
 intro n
 have here:∀(n:Nat) (L:Array Bool) (S:J8) (fr:Fr) (σ:St),
  ((∀A B:Prop,A→aGd (Gf ops) fr oi.guard A B)∧Yl P oi.op fr σ v∧Nx P ops K n (L.setIfInBounds i true) (S.add i fun σ'=>Yl P oi.op fr σ' v) (fr.put oi.dst v) σ∨
    (∀A B:Prop,B→aGd (Gf ops) fr oi.guard A B)∧v= .v undef∧Nx P ops K n (L.setIfInBounds i true) S (fr.put oi.dst v) σ)→
  Oq P ops i S (fun S' fr' σ'=>Nx P ops K n (L.setIfInBounds i true) S' fr' σ') fr σ:=by
  intro n L S fr σ H;unfold Oq;simp only[hi];rcases H with⟨hg,hy,H⟩|⟨hg,rfl,H⟩
  ·refine hg _ _ (hy _ ?_)
   rw[if_neg hcls];exact H
  ·exact hg _ _ H
 induction n with
 |zero=>
  intro L S fr σ hL hfree hr H;refine⟨fun h=>(by rw[h]at hr;cases hr),fun j hj=>?_⟩;by_cases hji:j=i
  ·subst hji;exact here 0 L S fr σ H
  ·have h1:=ready_mono hj hji
   have h0:Region.ready .any ops (L.setIfInBounds i true)=[]:=by
    rcases H with⟨_,_,H⟩|⟨_,_,H⟩<;>exact H.1
   rw[h0]at h1;cases h1
 |succ n ih=>
  intro L S fr σ hL hfree hr H;refine⟨fun h=>(by rw[h]at hr;cases hr),fun j hj=>?_⟩;by_cases hji:j=i
  ·subst hji;exact here (n+1) L S fr σ H
  ·obtain⟨hjun,oj,hoj,hall⟩:=K5 hj
   have hiun:=(K5 hr).1;have hnoti:L.getD i false=false:=by
    rcases Nat.lt_or_ge i L.size with h'|h'
    ·simpa[h']using hiun
    ·simp[Array.getElem?_eq_none h']
   have hnot:∀e∈oj.after,Region.binds .any e=true→e.on≠i:=fun e he hb heq=>by
    have:=hall e he hb;rw[heq,hnoti]at this;cases this
   have hap:=hfree j oj hoj hji hjun hnot;obtain⟨a1,a2,a3⟩:=Oper.apart_spec hap;have hbef:Br ops ops.size j i=false:=by
    cases hb:Br ops ops.size j i with
    |false=>rfl
    |true=>
     have:=Kg hL ops.size j i (fun o ho e he hbb=>by
      have:o=oj:=by rw[hoj]at ho;exact(Option.some.inj ho).symm
      subst this;exact hall e he hbb) hb
     rw[hnoti]at this;cases this
   have hfree':∀k ok,ops[k]? =some ok→k≠i→(L.setIfInBounds j true).getD k true=false→(∀e∈ok.after,Region.binds .any e=true→e.on≠i)→oi.apart ops ok=true:=fun k ok hk hki hun hno=>by
    refine hfree k ok hk hki ?_ hno;by_cases hjk:j=k
    ·subst hjk;exact hjun
    ·rw[getD_set_ne true hjk]at hun;exact hun
   have hL':=C3 hL hj;have hr':=ready_mono hr (Ne.symm hji);have gdi:∀(u:AV) (A B:Prop),aGd (Gf ops) (fr.put oj.dst u) oi.guard A B=aGd (Gf ops) fr oi.guard A B:=fun u A B=>Xo a3;have yli:∀(u:AV),(fun σ'=>Yl P oi.op (fr.put oj.dst u) σ' v)=fun σ'=>Yl P oi.op fr σ' v:=fun u=>Yv a3;unfold Oq;simp only[hoj];rcases H with⟨hg,hy,H⟩|⟨hg,hv,H⟩
   ·have h1:=H.2 j (ready_mono hj hji)
    unfold Oq at h1;simp only[hoj]at h1;rw[Xo a1]at h1;refine F9 (fun h1=>?_) (fun h1=>?_) h1
    ·rw[X3 a1]at h1
     by_cases hcj:cls P oj.op=2
     ·refine H0 _ _ (fun u σ' h2=>?_) h1
      rw[if_pos hcj]at h2⊢;refine⟨fun p q hpq hp=>h2.1 p q (.inl hpq) hp,?_⟩;refine ih (L.setIfInBounds j true) S (fr.put oj.dst u) σ' hL' hfree' hr' (.inl ⟨fun A B hA=>by rw[gdi];exact hg A B hA,?_,?_⟩)
      ·have:=h2.1 i _ (.inr ⟨rfl,rfl⟩) hbef
       rw[show Yl P oi.op (fr.put oj.dst u) σ' v=Yl P oi.op fr σ' v from congrFun (yli u) σ'];exact this
      ·rw[yli,Array.setIfInBounds_comm _ _ hji,Hp (d:=oj.dst) (d':=oi.dst) (fun t ht e=>a2 t e ht)]
       exact h2.2
     ·obtain⟨u,h2,h3⟩:=Le hcj h1
      rw[if_neg hcj]at h2;refine h3 _ ?_;rw[if_neg hcj];refine ih (L.setIfInBounds j true) _ (fr.put oj.dst u) σ hL' hfree' hr' (.inl ⟨fun A B hA=>by rw[gdi];exact hg A B hA,?_,?_⟩)
      ·rw[show Yl P oi.op (fr.put oj.dst u) σ v=Yl P oi.op fr σ v from congrFun (yli u) σ]
       exact hy
      ·rw[yli,Array.setIfInBounds_comm _ _ hji,Hp (d:=oj.dst) (d':=oi.dst) (fun t ht e=>a2 t e ht),Abx]
       rw[Yv a1]at h2;exact h2
    ·refine ih (L.setIfInBounds j true) S (fr.put oj.dst (.v undef)) σ hL' hfree' hr' (.inl ⟨fun A B hA=>by rw[gdi];exact hg A B hA,?_,?_⟩)
     ·rw[show Yl P oi.op (fr.put oj.dst (.v undef)) σ v=Yl P oi.op fr σ v from congrFun (yli _) σ]
      exact hy
     ·rw[yli,Array.setIfInBounds_comm _ _ hji,Hp (d:=oj.dst) (d':=oi.dst) (fun t ht e=>a2 t e ht)]
      exact h1
   ·have h1:=H.2 j (ready_mono hj hji)
    unfold Oq at h1;simp only[hoj]at h1;rw[Xo a1]at h1;refine F9 (fun h1=>?_) (fun h1=>?_) h1
    ·rw[X3 a1]at h1
     refine H0 _ _ (fun u σ' h2=>?_) h1;by_cases hcj:cls P oj.op=2
     ·rw[if_pos hcj]at h2⊢
      refine⟨h2.1,ih (L.setIfInBounds j true) S (fr.put oj.dst u) σ' hL' hfree' hr' (.inr ⟨fun A B hA=>by rw[gdi];exact hg A B hA,hv,?_⟩)⟩;rw[Array.setIfInBounds_comm _ _ hji,Hp (d:=oj.dst) (d':=oi.dst) (fun t ht e=>a2 t e ht)];exact h2.2
     ·rw[if_neg hcj]at h2⊢
      refine ih (L.setIfInBounds j true) _ (fr.put oj.dst u) σ' hL' hfree' hr' (.inr ⟨fun A B hA=>by rw[gdi];exact hg A B hA,hv,?_⟩);rw[Array.setIfInBounds_comm _ _ hji,Hp (d:=oj.dst) (d':=oi.dst) (fun t ht e=>a2 t e ht)];rw[Yv a1]at h2;exact h2
    ·refine ih (L.setIfInBounds j true) S (fr.put oj.dst (.v undef)) σ hL' hfree' hr' (.inr ⟨fun A B hA=>by rw[gdi];exact hg A B hA,hv,?_⟩)
     rw[Array.setIfInBounds_comm _ _ hji,Hp (d:=oj.dst) (d':=oi.dst) (fun t ht e=>a2 t e ht)];exact h1
inductive PS where
 |rd (i:Nat) (keep:Bool)
 |ef (i:Nat) (chk:List Nat)
def aLk(c:Nat):List (Nat×(St→Prop))→St→Prop
 | [],_=>True
 |(i,q)::r,σ=>(c=i→q σ)∧aLk c r σ
def Qx:List Nat→List (Nat×(St→Prop))→St→Prop
 | [],_,_=>True
 |c::cs,S,σ=>aLk c S σ∧Qx cs S σ
def Bo(P:Program)(ds:List (Option Nat))(l:List Oper)(K:Fr→St→Prop):List PS→List (Nat×(St→Prop))→Fr→St→Prop
 | [],_,fr,σ=>K fr σ
 | .rd i keep::r,S,fr,σ=>match l[i]? with
  |none=>False
  |some o=>aGd ds fr o.guard (aOp P o.op fr σ fun v σ'=>Bo P ds l K r (if keep then(i,fun σ''=>Yl P o.op fr σ'' v)::S else S) (fr.put o.dst v) σ') (Bo P ds l K r S (fr.put o.dst (.v undef)) σ)
 | .ef i chk::r,S,fr,σ=>match l[i]? with
  |none=>False
  |some o=>aGd ds fr o.guard (aOp P o.op fr σ fun v σ'=>Qx chk S σ'∧Bo P ds l K r S (fr.put o.dst v) σ') (Bo P ds l K r S (fr.put o.dst (.v undef)) σ)
def Dl(P:Program)(ops:Array Oper)(i:Nat):Nat:=match ops[i]? with
 |some o=>cls P o.op
 |none=>3
def C0(P:Program)(ops:Array Oper):List PS→Array Bool→List Nat→Bool
 | [],L,_=>(Region.ready .any ops L).isEmpty
 | .rd i keep::r,L,N=>(Region.ready .any ops L).contains i&&(Dl P ops i==0||(Dl P ops i==1&&keep))&&Region.free .any ops L i&&C0 P ops r (L.setIfInBounds i true) (if keep then i::N else N)
 | .ef i chk::r,L,N=>(Region.ready .any ops L== [i])&&(Dl P ops i==2)&&(N.all fun p=>Br ops ops.size i p||chk.contains p)&&C0 P ops r (L.setIfInBounds i true) N
theorem Aa1{ds:List (Option Nat)}{fr:Fr}{g:Option (Nat×Bool)}{A B:Prop}(h:aGd ds fr g A B):
  ((∀A' B':Prop,A'→aGd ds fr g A' B')∧A)∨((∀A' B':Prop,B'→aGd ds fr g A' B')∧B):=by
 unfold aGd at h⊢;cases g with
 |none=>exact .inl ⟨fun _ _ h=>h,h⟩
 |some q=>
  obtain⟨j,want⟩:=q;simp only at h⊢;revert h;generalize ds.getD j none=z;cases z with
  |none=>exact fun h=>h.elim
  |some d=>
   simp only;generalize fr d=x;cases x with
   |v y=>cases y with
    |bool b=>
     intro h;cases want<;>cases b
     ·exact .inl ⟨fun _ _ h=>h,h⟩
     ·exact .inr ⟨fun _ _ h=>h,h⟩
     ·exact .inr ⟨fun _ _ h=>h,h⟩
     ·exact .inl ⟨fun _ _ h=>h,h⟩
    |_=>exact fun h=>.inr ⟨fun _ _ h=>h,h⟩
   |_=>exact fun h=>h.elim
theorem Xv{c:Nat}{q:St→Prop}{σ:St}:∀{S:List (Nat×(St→Prop))},(c,q)∈S→aLk c S σ→q σ
 |(i,r)::S,hm,h=>by
  rcases List.mem_cons.1 hm with e|hm
  ·injection e with e1 e2
   subst e1;subst e2;exact h.1 rfl
  ·exact Xv hm h.2
theorem S1{S:List (Nat×(St→Prop))}{σ:St}:∀{cs:List Nat} {c:Nat},c∈cs→Qx cs S σ→aLk c S σ
 |d::cs,c,hm,h=>by
  rcases List.mem_cons.1 hm with rfl|hm
  ·exact h.1
  ·exact S1 hm h.2
theorem Gp{l:List Oper}:∀(pl:List PS) (L:Array Bool) (N:List Nat) (Sl:List (Nat×(St→Prop))) (S:J8) (fr:Fr) (σ:St),C0 P l.toArray pl L N=true→Kj l.toArray L→
  (∀p q,S p q→(∀σ',q σ')∨(p,q)∈Sl)→(∀x∈Sl,x.1∈N)→Bo P (Gf l.toArray) l K pl Sl fr σ→Nx P l.toArray K pl.length L S fr σ
 | [],L,N,Sl,S,fr,σ,hok,_,_,_,h=>⟨by simpa[C0]using hok,h⟩
 | .rd i keep::r,L,N,Sl,S,fr,σ,hok,hL,hS,hN,h=>by
  simp only[C0,Bool.and_eq_true,Bool.or_eq_true,beq_iff_eq]at hok;obtain⟨⟨⟨hr,hc⟩,hf⟩,hok⟩:=hok;have hr:i∈Region.ready .any l.toArray L:=by simpa using hr
  simp only[Bo]at h;cases hi:l[i]? with
  |none=>rw[hi]at h;exact h.elim
  |some o=>
   rw[hi]at h;have hi':l.toArray[i]? =some o:=by simpa using hi
   have hcl:Dl P l.toArray i=cls P o.op:=by simp[Dl,hi]
   rw[hcl]at hc;have hne:cls P o.op≠2:=by rcases hc with h|⟨h,_⟩<;>omega
   rcases Aa1 h with⟨hg,h⟩|⟨hg,h⟩
   ·obtain⟨v,hk,hy⟩:=Le hne h
    refine Kr hi' hne r.length L S fr σ hL (Region.free_spec hi' hf) hr (.inl ⟨hg,hy,?_⟩);refine Gp r _ _ _ _ _ _ hok (C3 hL hr) ?_ ?_ hk
    ·rintro p q (hp|⟨rfl,rfl⟩)
     ·rcases hS p q hp with h|h
      ·exact .inl h
      ·refine .inr ?_
       split
       ·exact List.mem_cons_of_mem _ h
       ·exact h
     ·rcases hc with h0|⟨_,h0⟩
      ·exact .inl fun σ'=>hy.any h0 σ'
      ·rw[if_pos h0]
       exact .inr (List.mem_cons_self ..)
    ·intro x hx
     cases keep with
     |true=>
      rcases List.mem_cons.1 hx with rfl|hx
      ·exact List.mem_cons_self ..
      ·exact List.mem_cons_of_mem _ (hN x hx)
     |false=>exact hN x hx
   ·refine Kr hi' hne r.length L S fr σ hL (Region.free_spec hi' hf) hr (.inr ⟨hg,rfl,?_⟩)
    refine Gp r _ _ _ _ _ _ hok (C3 hL hr) hS ?_ h;intro x hx;cases keep with
    |true=>exact List.mem_cons_of_mem _ (hN x hx)
    |false=>exact hN x hx
 | .ef i chk::r,L,N,Sl,S,fr,σ,hok,hL,hS,hN,h=>by
  simp only[C0,Bool.and_eq_true,beq_iff_eq]at hok;obtain⟨⟨⟨hr,hc⟩,hn⟩,hok⟩:=hok;have hri:i∈Region.ready .any l.toArray L:=by rw[hr];simp
  refine⟨fun h=>(by rw[h]at hr;cases hr),fun j hj=>?_⟩;rw[hr]at hj;obtain rfl:j=i:=by simpa using hj
  simp only[Bo]at h;cases hi:l[j]? with
  |none=>rw[hi]at h;exact h.elim
  |some o=>
   rw[hi]at h;have hi':l.toArray[j]? =some o:=by simpa using hi
   have hcl:Dl P l.toArray j=cls P o.op:=by simp[Dl,hi]
   rw[hcl]at hc;unfold Oq;rw[hi'];refine F9 (fun h=>H0 _ _ (fun v σ' hv=>?_) h) (fun h=>?_) h
   ·rw[if_pos hc]
    refine⟨fun p q hpq hb=>?_,Gp r _ N Sl S _ _ hok (C3 hL hri) hS hN hv.2⟩;rcases hS p q hpq with h|h
    ·exact h σ'
    ·have:=List.all_eq_true.1 hn p (hN _ h)
     rw[hb,Bool.false_or]at this;exact Xv h (S1 (by simpa using this) hv.1)
   ·exact Gp r _ N Sl S _ _ hok (C3 hL hri) hS hN h
theorem Kl{l:List Oper}{fr:Fr}{σ:St}(pl:List PS)(hm:P.follows .mixedOrders=true)(hlen:(pl.length==l.length)=true)(hok:C0 P l.toArray pl (Array.replicate l.length false) []=true)
  (h:Bo P (l.map (·.dst)) l K pl (@hid _ ⟨[]⟩) fr σ):Ol P l.toArray K fr σ:=by
 refine La hm ?_;have e:pl.length=l.toArray.size:=by simpa using hlen
 rw[←e];refine Gp pl _ [] [] _ fr σ ?_ ?_ (fun _ _ h=>h.elim) (fun x hx=>by cases hx) h
 ·rw[e];simpa using hok
 ·intro i o hi
  rw[e]at hi;rcases Nat.lt_or_ge i l.length with h'|h'
  ·simp[Array.getElem?_replicate,h']at hi
  ·simp[Array.getElem?_replicate,Nat.not_lt.2 h']at hi
theorem Ag{P:Program}{K:Fr→St→Prop}{l:List Oper}{fr:Fr}{σ:St}(pl:List PS)(h:Bo P (l.map (·.dst)) l K pl (@hid _ ⟨[]⟩) fr σ)(hm:P.follows .mixedOrders=true:=by kernel_rfl)(hlen:(pl.length==l.length)=true:=by kernel_rfl)(hok:C0 P l.toArray pl (Array.replicate l.length false) []=true:=by kernel_rfl):Ol P l.toArray K fr σ:=Kl pl hm hlen hok h
def aRd(P:Program)(ds:List (Option Nat))(l:List Oper)(K:Fr→St→Prop)(keep:Bool)(i:Nat)(r:List PS)(S:List (Nat×(St→Prop)))(fr:Fr)(σ:St):Option Oper→Prop
 |none=>False
 |some o=>aGd ds fr o.guard (aOp P o.op fr σ fun v σ'=>Bo P ds l K r (if keep then(i,fun σ''=>Yl P o.op fr σ'' v)::S else S) (fr.put o.dst v) σ') (Bo P ds l K r S (fr.put o.dst (.v undef)) σ)
def aEf(P:Program)(ds:List (Option Nat))(l:List Oper)(K:Fr→St→Prop)(chk:List Nat)(r:List PS)(S:List (Nat×(St→Prop)))(fr:Fr)(σ:St):Option Oper→Prop
 |none=>False
 |some o=>aGd ds fr o.guard (aOp P o.op fr σ fun v σ'=>Qx chk S σ'∧Bo P ds l K r S (fr.put o.dst v) σ') (Bo P ds l K r S (fr.put o.dst (.v undef)) σ)
section
variable{ds:List (Option Nat)}{l:List Oper}{S:List (Nat×(St→Prop))}{fr:Fr}{σ:St}{r:List PS}{i:Nat}{chk:List Nat}{d:Option Nat}{op:Op}{t:TypeId}{p:String}{e:Array Edge}{g:Nat×Bool}
@[go_sem] theorem As1:Bo P ds l K [] S fr σ=K fr σ:=_root_.id rfl
@[go_sem] theorem p_rd{keep:Bool}:Bo P ds l K (.rd i keep::r) S fr σ=aRd P ds l K keep i r S fr σ (l[i]?):=by
 simp only[Bo,aRd]
 first|done|(cases l[i]? <;>rfl)
@[go_sem] theorem p_ef:Bo P ds l K (.ef i chk::r) S fr σ=aEf P ds l K chk r S fr σ (l[i]?):=by
 simp only[Bo,aEf]
 first|done|(cases l[i]? <;>rfl)
@[go_sem] theorem rd_k:aRd P ds l K true i r S fr σ (some {dst:=d,op:=op,type:=t,pos:=p,after:=e,guard:=none})=aOp P op fr σ (@hid _ ⟨fun v σ'=>Bo P ds l K r (@hid _ ⟨(i,fun σ''=>Yl P op fr σ'' v)::S⟩) (fr.put d v) σ'⟩):=_root_.id rfl
@[go_sem] theorem rd_n:aRd P ds l K false i r S fr σ (some {dst:=d,op:=op,type:=t,pos:=p,after:=e,guard:=none})=aOp P op fr σ (@hid _ ⟨fun v σ'=>Bo P ds l K r S (fr.put d v) σ'⟩):=_root_.id rfl
@[go_sem] theorem Atd:aRd P ds l K true i r S fr σ (some {dst:=d,op:=op,type:=t,pos:=p,after:=e,guard:=some g})=aGd ds fr (some g) (@hid _ ⟨aOp P op fr σ (@hid _ ⟨fun v σ'=>Bo P ds l K r (@hid _ ⟨(i,fun σ''=>Yl P op fr σ'' v)::S⟩) (fr.put d v) σ'⟩)⟩) (@hid _ ⟨Bo P ds l K r S (fr.put d (.v undef)) σ⟩):=_root_.id rfl
@[go_sem] theorem Ate:aRd P ds l K false i r S fr σ (some {dst:=d,op:=op,type:=t,pos:=p,after:=e,guard:=some g})=aGd ds fr (some g) (@hid _ ⟨aOp P op fr σ (@hid _ ⟨fun v σ'=>Bo P ds l K r S (fr.put d v) σ'⟩)⟩) (@hid _ ⟨Bo P ds l K r S (fr.put d (.v undef)) σ⟩):=_root_.id rfl
@[go_sem] theorem ef_0:aEf P ds l K chk r S fr σ (some {dst:=d,op:=op,type:=t,pos:=p,after:=e,guard:=none})=aOp P op fr σ (@hid _ ⟨fun v σ'=>Qx chk S σ'∧Bo P ds l K r S (fr.put d v) σ'⟩):=_root_.id rfl
@[go_sem] theorem ef_g:aEf P ds l K chk r S fr σ (some {dst:=d,op:=op,type:=t,pos:=p,after:=e,guard:=some g})=aGd ds fr (some g) (@hid _ ⟨aOp P op fr σ (@hid _ ⟨fun v σ'=>Qx chk S σ'∧Bo P ds l K r S (fr.put d v) σ'⟩)⟩) (@hid _ ⟨Bo P ds l K r S (fr.put d (.v undef)) σ⟩):=_root_.id rfl
@[go_sem] theorem Ana:Qx [] S σ=True:=_root_.id rfl
@[go_sem] theorem Al4{c:Nat}{cs:List Nat}:Qx (c::cs) S σ=(aLk c S σ∧Qx cs S σ):=_root_.id rfl
@[go_sem] theorem Ap1{c:Nat}:aLk c (@hid _ ⟨[]⟩) σ=True:=_root_.id rfl
@[go_sem] theorem Aoe{c:Nat}{q:St→Prop}:aLk c (@hid _ ⟨(i,q)::S⟩) σ=((c=i→q σ)∧aLk c S σ):=_root_.id rfl
@[go_sem] theorem yl_r{o:Op}{v:AV}:Yl P o fr σ v=∀k:AV→St→Prop,k v σ→aOp P o fr σ k:=_root_.id rfl
end
end
section
variable{P:Program}
theorem Ms{ds:List (Option Nat)}{K K':Fr→St→Prop}(hk:∀fr σ,K fr σ→K' fr σ):∀(l:List Oper) (fr:Fr) (σ:St),J9 P ds l K fr σ→J9 P ds l K' fr σ
 | [],fr,σ,h=>hk fr σ h
 |o::l,fr,σ,h=>F9 (fun h=>H0 _ _ (fun v σ' hv=>Ms hk l _ _ hv) h) (fun h=>Ms hk l _ _ h) h
theorem Jn{ops:Array Oper}{K K':Fr→St→Prop}(hk:∀fr σ,K fr σ→K' fr σ):∀(l:List Nat) (fr:Fr) (σ:St),He P ops l K fr σ→He P ops l K' fr σ
 | [],fr,σ,h=>hk fr σ h
 |i::l,fr,σ,h=>by
  rw[Q7]at h⊢;split at h
  ·exact Jn hk l _ _ h
  ·exact F9 (fun h=>H0 _ _ (fun v σ' hv=>Jn hk l _ _ hv) h) (fun h=>Jn hk l _ _ h) h
def AK.le(K K':AK):Prop:=∀e fr σ,K e fr σ→K' e fr σ
theorem AK.le_then{A A':Fr→St→Prop}{K K':AK}(ha:∀fr σ,A fr σ→A' fr σ)(hk:K.le K'):(AK.then A K).le (AK.then A' K'):=fun e fr σ h=>by
 cases e with
 |normal=>exact ha _ _ h
 |exit id=>exact hk (.exit id) _ _ h
 |goto l=>exact hk (.goto l) _ _ h
 |ret=>exact hk .ret _ _ h
theorem Ck:∀(c:Code) {K K':AK},K.le K'→∀(fr:Fr) (σ:St),Aw P c K fr σ→Aw P c K' fr σ
 | .skip,_,_,hk,fr,σ,h=>hk .normal _ _ h
 | .label _,_,_,hk,fr,σ,h=>hk .normal _ _ h
 | .exit id,_,_,hk,fr,σ,h=>hk (.exit id) _ _ h
 | .ret,_,_,hk,fr,σ,h=>hk .ret _ _ h
 | .region _ ops false,_,_,hk,fr,σ,h=>Ms (fun fr σ h=>hk .normal _ _ h) _ _ _ h
 | .region _ ops true,_,_,hk,fr,σ,h=>fun t=>Jn (fun fr σ h=>hk .normal _ _ h) _ _ _ (h t)
 | .seq x y,_,_,hk,fr,σ,h=>Ck x (AK.le_then (fun fr σ h=>Ck y hk _ _ h) hk) _ _ h
 | .cond c x y,K,K',hk,fr,σ,h=>by
  simp only[Aw]at h⊢;unfold Ui at h⊢;split at h
  ·exact On (fun h=>Ck x hk _ _ h) (fun h=>Ck y hk _ _ h) h
  ·exact h.elim
 | .block id x,K,K',hk,fr,σ,h=>Ck x (fun e fr σ h=>by
   cases e with
   |exit j=>
    simp only[AK.block]at h⊢;split
    ·rename_i hj;rw[if_pos hj]at h;exact hk .normal _ _ h
    ·rename_i hj;rw[if_neg hj]at h;exact hk (.exit j) _ _ h
   |normal=>exact hk .normal _ _ h
   |goto l=>exact hk (.goto l) _ _ h
   |ret=>exact hk .ret _ _ h) _ _ h
 | .scope x,K,K',hk,fr,σ,h=>Ck x (fun e fr σ h=>by
   cases e with
   |goto l=>exact h.elim
   |normal=>exact hk .normal _ _ h
   |exit j=>exact hk (.exit j) _ _ h
   |ret=>exact hk .ret _ _ h) _ _ h
 | .loop x,K,K',hk,fr,σ,⟨I,h0,hr⟩=>⟨I,h0,fun m fr σ hI=>Ck x (AK.le_then (fun _ _ h=>h) hk) _ _ (hr m fr σ hI)⟩
 | .rangeFunc g ps x y,K,K',hk,fr,σ,h=>by
  simp only[Aw,Ip]at h⊢;split at h
  ·intro n l h1 h2
   refine(h n l h1 h2).mono fun _ σ' h=>?_;unfold Ij at h⊢;split at h
   ·refine⟨h.1,?_⟩
    have h:=h.2;unfold Nn at h⊢;split at h
    ·exact hk .normal _ _ h
    ·exact hk .ret _ _ h
    ·exact hk (.exit _) _ _ h
    ·exact h.elim
   ·exact h.elim
  ·exact h.elim
 | .goto _,_,_,_,_,_,h=>h.elim
 | .refuse _,_,_,_,_,_,h=>h.elim
def Km(P:Program)(x:Code)(K:AK):Nat→Fr→St→Prop
 |0,_,_=>False
 |n+1,fr,σ=>Aw P x (AK.then (Km P x K n) K) fr σ
theorem Fu{x:Code}{K:AK}{fr:Fr}{σ:St}(n:Nat)(h:Km P x K n fr σ):Acl (@hid _ ⟨Aw P x⟩) K fr σ:=
 ⟨fun m fr σ=>Km P x K m fr σ,⟨n,h⟩,fun m fr σ h=>by
  cases m with
  |zero=>exact h.elim
  |succ m=>exact Ck x (AK.le_then (fun fr σ h=>⟨m,Nat.lt_succ_self m,h⟩) fun _ _ _ h=>h) _ _ h⟩
@[go_sem] theorem As5{x:Code}{K:AK}{n:Nat}{fr:Fr}{σ:St}:Km P x K (n+1) fr σ=Aw P x (@hid _ ⟨AK.then (Km P x K n) K⟩) fr σ:=_root_.id rfl
end
theorem Io{P:Program}{x:Code}{A:Fr→St→Prop}{K:AK}{fr:Fr}{σ:St}(M:Fr→St→Prop)(h1:Aw P x (@hid _ ⟨AK.then M K⟩) fr σ)(h2:∀fr σ,M fr σ→A fr σ):Aw P x (@hid _ ⟨AK.then A K⟩) fr σ:=
 Ck x (AK.le_then h2 fun _ _ _ h=>h) fr σ h1
theorem D8{P:Program}{x y:Code}{A:Fr→St→Prop}{K:AK}{fr:Fr}{σ:St}{p:Prop}[Decidable p](M:Fr→St→Prop)(h1:p→Aw P x (@hid _ ⟨AK.then M K⟩) fr σ)(h2:¬p→Aw P y (@hid _ ⟨AK.then M K⟩) fr σ)(h3:∀fr σ,M fr σ→A fr σ):
  aIf (decide p) (@hid _ ⟨Aw P x (@hid _ ⟨AK.then A K⟩) fr σ⟩) (@hid _ ⟨Aw P y (@hid _ ⟨AK.then A K⟩) fr σ⟩):=
 aIf_by (fun h=>Io M (h1 h) h3) fun h=>Io M (h2 h) h3
theorem Q6{P:Program}{x y:Code}{A:Fr→St→Prop}{K:AK}{fr:Fr}{σ:St}{p:Bool}(M:Fr→St→Prop)(h1:p=true→Aw P x (@hid _ ⟨AK.then M K⟩) fr σ)(h2:p=false→Aw P y (@hid _ ⟨AK.then M K⟩) fr σ)(h3:∀fr σ,M fr σ→A fr σ):
  aIf p (@hid _ ⟨Aw P x (@hid _ ⟨AK.then A K⟩) fr σ⟩) (@hid _ ⟨Aw P y (@hid _ ⟨AK.then A K⟩) fr σ⟩):=
 aIf_bool (fun h=>Io M (h1 h) h3) fun h=>Io M (h2 h) h3
theorem Ai{x:Int}(h: -9223372036854775808≤x∧x≤9223372036854775807):IntKind.i64.wrap x=x:=by
 simp[IntKind.wrap,IntKind.signed,IntKind.bits];omega
theorem Amz{x:Int}(h:0≤x∧x≤255):IntKind.u8.wrap x=x:=by
 simp[IntKind.wrap,IntKind.signed,IntKind.bits];omega
theorem Kz{i:Nat}(h:i<9223372036854775807):IntKind.i64.wrap ((i:Int)+1)=((i+1:Nat):Int):=by
 rw[Ai (by omega)];omega
theorem A2(i:Nat)(h:i<9223372036854775807):IntKind.i64.wrap ((i:Int)+1)=((i+1:Nat):Int):=Kz h
theorem Ao{σ σ':St}{r:AV}(h:∀b o,σ' b=some o→σ b=some o):Ey σ r σ' r:=fun F w x hs hv=>
 ⟨F,⟨.refl F w,rfl,rfl,rfl,Nat.le_refl _,fun b _ hb=>⟨rfl,(by
  cases h':σ' b with
  |none=>rfl
  |some o=>(rw[h b o h']at hb;cases hb)),rfl⟩⟩,⟨fun b o hb=>hs.obj b o (h b o hb),hs.lt⟩,hv⟩
theorem A9{σ σ0:St}{b:Nat}{o:Bn}(hb:σ0 b=none)(h:∀x p,σ0 x=some p→σ x=some p):∀x p,σ0 x=some p→(σ.set b o) x=some p:=fun x p hx=>by
 have:x≠b:=fun e=>by subst e;rw[hb]at hx;cases hx
 rw[Ad this];exact h x p hx
theorem Cj{σ σ0:St}{b:Nat}(h:∀x p,σ0 x=some p→σ x=some p)(hb:σ b=none):σ0 b=none:=by
 cases h':σ0 b with
 |none=>rfl
 |some o=>rw[h b o h']at hb;cases hb
def LAt(q:Nat)(σ:St)(lv:AV)(es:List (List AV)):Prop:=
 (lv= .v (.slice none 0 0)∧es=[])∨lv= .fsl q es∨∃b cap,lv= .v (.slice (some ⟨b,0,none⟩) es.length cap)∧es.length≤cap∧σ b=some (.rows q es false cap)
def Own(lv:AV)(x:Nat):Prop:=∃n c,lv= .v (.slice (some ⟨x,0,none⟩) n c)
section
variable{q:Nat}{σ σ':St}{lv:AV}{es ys:List (List AV)}{K:AV→Prop}{k:AV→St→Prop}
theorem LAt.none:LAt q σ (.v (.slice none 0 0)) []:=.inl ⟨rfl,rfl⟩
theorem LAt.full:LAt q σ (.fsl q es) es:=.inr (.inl rfl)
theorem LAt.cells(h:LAt q σ lv es):lv.cells=[lv]:=by
 rcases h with⟨rfl,_⟩|rfl|⟨b,cap,rfl,_⟩<;>rfl
theorem LAt.one(h:LAt q σ lv es):lv.one=true:=by
 rcases h with⟨rfl,_⟩|rfl|⟨b,cap,rfl,_⟩<;>rfl
theorem LAt.own_rows(h:LAt q σ lv es){x:Nat}(ho:Own lv x):∃cap,σ x=some (.rows q es false cap):=by
 obtain⟨n,c,ho⟩:=ho;rcases h with⟨rfl,_⟩|rfl|⟨b,cap,rfl,_,hb⟩
 ·cases ho
 ·cases ho
 ·injection ho with ho
  injection ho with ho;injection ho with ho;injection ho with ho;subst ho;exact⟨cap,hb⟩
theorem LAt.not_own(h:LAt q σ lv es){x:Nat}{cs:List AV}(hx:σ x=some (.cells cs)):¬Own lv x:=fun ho=>by
 obtain⟨c,hc⟩:=h.own_rows ho;rw[hx]at hc;cases hc
theorem LAt.keep(h:LAt q σ lv es)(hs:∀x o,σ x=some o→Own lv x→σ' x=some o):LAt q σ' lv es:=by
 rcases h with⟨rfl,he⟩|rfl|⟨b,cap,rfl,hc,hb⟩
 ·exact .inl ⟨rfl,he⟩
 ·exact .inr (.inl rfl)
 ·exact .inr (.inr ⟨b,cap,rfl,hc,hs b _ hb ⟨_,_,rfl⟩⟩)
theorem LAt.len{ag:Bool}{sz eby:Nat}{zr ez:List Value}{byt:Bool}(h:LAt q σ lv es):Im (some ⟨ag,sz,zr,.sl q eby ez byt⟩) lv K=K (.v (.int .i64 es.length)):=by
 rcases h with⟨rfl,rfl⟩|rfl|⟨b,cap,rfl,_⟩<;>rfl
theorem LAt.from{ag:Bool}{sz eby:Nat}{zr ez:List Value}{byt:Bool}{ik:IntKind}{j:Int}(h:LAt q σ lv es)(hq:0<q)(h0:0≤j)(h1:j≤es.length)
  (hk:∀x,(∀σ' byt',LAt q σ' lv es→src q byt' σ' x=some (es.drop j.toNat))→K x):aSli (some ⟨ag,sz,zr,.sl q eby ez byt⟩) σ lv (some (.v (.int ik j))) .none .none K:=by
 rcases h with⟨rfl,rfl⟩|rfl|⟨b,cap,rfl,hc,hb⟩
 ·have hj:j=0:=by simp at h1;omega
  subst hj;exact .inr ⟨[],rfl,0,0,rfl,rfl,by omega,by omega,by simp,.inl ⟨rfl,hk _ fun σ' byt' _=>by simp[src]⟩⟩
 ·exact .inr ⟨es,by simp[view],j,es.length,rfl,rfl,h0,h1,by omega,.inl ⟨rfl,hk _ fun σ' byt' _=>by simp[src]⟩⟩
 ·refine .inl ⟨b,0,_,cap,rfl,j,es.length,cap,rfl,rfl,.inl ⟨rfl,rfl⟩,h0,h1,by omega,by omega,?_⟩
  simp only[Int.toNat_natCast];refine hk _ fun σ' byt' h'=>?_;rcases h' with⟨h',_⟩|h'|⟨b',cap',h',_,hb'⟩
  ·cases h'
  ·cases h'
  ·injection h' with h'
   injection h' with h' _ _;injection h' with h';injection h' with h';subst h';simp only[src,hb'];unfold Fl;split
   ·rename_i hm
    have:j.toNat=es.length:=by omega
    rw[if_pos ⟨trivial,by simp,by simp⟩];simp[this]
   ·rw[if_pos ⟨trivial,by simp,by simp[hq];omega⟩]
    simp only[Nat.zero_add];rw[Nat.mul_div_cancel _ hq,List.take_of_length_le (by simp)]
theorem LAt.app{eby:Nat}(h:LAt q σ lv es)(hb:(es.length+ys.length)*eby≤140737488355328)
  (hk:∀lv' σ',LAt q σ' lv' (es++ys)→(∀x o,σ x=some o→¬Own lv x→σ' x=some o∧¬Own lv' x)→k lv' σ'):D7 q eby ys σ lv k:=by
 rcases h with⟨rfl,rfl⟩|rfl|⟨b,cap,rfl,hc,hbr⟩
 ·refine⟨fun e=>?_,fun e=>⟨by simpa using hb,fun b cap hb0 hle=>?_⟩⟩
  ·subst e
   exact hk _ _ (.inl ⟨rfl,rfl⟩) fun x o hx hn=>⟨hx,hn⟩
  ·refine hk _ _ (.inr (.inr ⟨b,cap,by simp,by simpa using hle,by rw[Ab];simp⟩)) fun x o hx hn=>?_
   have hne:x≠b:=fun e=>by subst e;rw[hb0]at hx;cases hx
   refine⟨by rw[Ad hne];exact hx,fun⟨n,c,ho⟩=>?_⟩;injection ho with ho;injection ho with ho _ _;injection ho with ho;injection ho with ho;exact hne ho.symm
 ·refine⟨rfl,fun e=>?_,fun e=>⟨hb,fun b cap hb0 hle=>?_⟩⟩
  ·subst e
   rw[←List.append_nil es];exact hk _ _ (by rw[List.append_nil];exact .inr (.inl rfl)) fun x o hx hn=>⟨hx,fun⟨n,c,ho⟩=>by cases ho⟩
  ·refine hk _ _ (.inr (.inr ⟨b,cap,by simp,by simpa using hle,by rw[Ab]⟩)) fun x o hx hn=>?_
   have hne:x≠b:=fun e=>by subst e;rw[hb0]at hx;cases hx
   refine⟨by rw[Ad hne];exact hx,fun⟨n,c,ho⟩=>?_⟩;injection ho with ho;injection ho with ho _ _;injection ho with ho;injection ho with ho;exact hne ho.symm
 ·refine .inr (.inl ⟨rfl,?_⟩)
  simp only[hbr];refine⟨trivial,trivial,trivial,hb,fun b' cap' hb0 hle=>?_⟩;refine hk _ _ (.inr (.inr ⟨b',cap',by simp,by simpa using hle,by rw[Ab]⟩)) fun x o hx hn=>?_;have hnb:x≠b:=fun e=>by subst e;exact hn ⟨_,_,rfl⟩
  have hdel:(σ.del b) x=some o:=by simp[St.del,hnb,hx]
  have hne:x≠b':=fun e=>by subst e;rw[hb0]at hdel;cases hdel
  refine⟨by rw[Ad hne];exact hdel,fun⟨n,c,ho⟩=>?_⟩;injection ho with ho;injection ho with ho _ _;injection ho with ho;injection ho with ho;exact hne ho.symm
theorem LAt.app_row{eby:Nat}(h:LAt q σ lv es)(hy:ys≠[])(hb:(es.length+ys.length)*eby≤140737488355328)
  (hk:∀b cap σ',es.length+ys.length≤cap→σ' b=some (.rows q (es++ys) false cap)→(∀x o,σ x=some o→¬Own lv x→σ' x=some o∧x≠b)→k (.v (.slice (some ⟨b,0,Option.none⟩) (es.length+ys.length) cap)) σ'):D7 q eby ys σ lv k:=by
 rcases h with⟨rfl,rfl⟩|rfl|⟨b,cap,rfl,hc,hbr⟩
 ·refine⟨fun e=>absurd e hy,fun e=>⟨by simpa using hb,fun b cap hb0 hle=>?_⟩⟩
  have:=hk b cap (σ.set b (.rows q ys false cap)) (by simpa using hle) (by rw[Ab];simp) fun x o hx hn=>?_
  ·simpa using this
  ·have hne:x≠b:=fun e=>by subst e;rw[hb0]at hx;cases hx
   exact⟨by rw[Ad hne];exact hx,hne⟩
 ·refine⟨rfl,fun e=>absurd e hy,fun e=>⟨hb,fun b cap hb0 hle=>?_⟩⟩
  refine hk b cap _ hle Ab fun x o hx hn=>?_;have hne:x≠b:=fun e=>by subst e;rw[hb0]at hx;cases hx
  exact⟨by rw[Ad hne];exact hx,hne⟩
 ·refine .inr (.inl ⟨rfl,?_⟩)
  simp only[hbr];refine⟨trivial,trivial,trivial,hb,fun b' cap' hb0 hle=>?_⟩;refine hk b' cap' _ hle Ab fun x o hx hn=>?_;have hnb:x≠b:=fun e=>by subst e;exact hn ⟨_,_,rfl⟩
  have hdel:(σ.del b) x=some o:=by simp[St.del,hnb,hx]
  have hne:x≠b':=fun e=>by subst e;rw[hb0]at hdel;cases hdel
  exact⟨by rw[Ad hne];exact hdel,hne⟩
theorem As{ag:Bool}{sz eby:Nat}{zr ez:List Value}{byt:Bool}{s x:AV}(hs:src q byt σ x=some ys)(hq:0<q)(he:0<eby)(hz:ez.all Value.oneCell'=true)(h:D7 q eby ys σ s k):Qw (some ⟨ag,sz,zr,.sl q eby ez byt⟩) σ s x k:=
 ⟨hq,he,hz,ys,hs,h⟩
end
inductive VW(σ σ':St):AV→AV→Prop
 |refl (a:AV):VW σ σ' a a
 |nil (q:Nat):VW σ σ' (.v (.slice none 0 0)) (.sl q [])
 |full (q:Nat) (es es':List (List AV)) (hl:es'.length=es.length) (hk:∀i,i<es.length→(es'.getD i []).length=(es.getD i []).length)
   (h:∀i j,i<es.length→j<(es.getD i []).length→VW σ σ' ((es.getD i []).getD j (.v undef)) ((es'.getD i []).getD j (.v undef))):VW σ σ' (.fsl q es) (.sl q es')
 |part (q:Nat) (es es':List (List AV)) (hl:es'.length=es.length) (hk:∀i,i<es.length→(es'.getD i []).length=(es.getD i []).length)
   (h:∀i j,i<es.length→j<(es.getD i []).length→VW σ σ' ((es.getD i []).getD j (.v undef)) ((es'.getD i []).getD j (.v undef))):VW σ σ' (.sl q es) (.sl q es')
 |rowp (b q:Nat) (es es':List (List AV)) (frz:Bool) (cap n c:Nat) (hb:σ b=some (.rows q es frz cap)) (hb':σ' b=none) (hn:n≤es.length) (hc:n≤c) (hl:es'.length=n) (hk:∀i,i<n→(es'.getD i []).length=(es.getD i []).length)
   (h:∀i j,i<n→j<(es.getD i []).length→VW σ σ' ((es.getD i []).getD j (.v undef)) ((es'.getD i []).getD j (.v undef))):VW σ σ' (.v (.slice (some ⟨b,0,none⟩) n c)) (.sl q es')
 |agg (cs cs':List AV) (hl:cs'.length=cs.length) (h:∀j,j<cs.length→VW σ σ' (cs.getD j (.v undef)) (cs'.getD j (.v undef))):VW σ σ' (.agg cs) (.agg cs')
 |tup (cs cs':List AV) (hl:cs'.length=cs.length) (h:∀j,j<cs.length→VW σ σ' (cs.getD j (.v undef)) (cs'.getD j (.v undef))):VW σ σ' (.tup cs) (.tup cs')
theorem VW.row{σ σ':St}(b q:Nat)(es es':List (List AV))(frz:Bool)(cap n c:Nat)(hb:σ b=some (.rows q es frz cap))(hb':σ' b=none)(hn:n=es.length)(hc:n≤c)(hl:es'.length=es.length)(hk:∀i,i<es.length→(es'.getD i []).length=(es.getD i []).length)
  (h:∀i j,i<es.length→j<(es.getD i []).length→VW σ σ' ((es.getD i []).getD j (.v undef)) ((es'.getD i []).getD j (.v undef))):VW σ σ' (.v (.slice (some ⟨b,0,none⟩) n c)) (.sl q es'):=
 .rowp b q es es' frz cap n c hb hb' (by omega) hc (by omega) (fun i hi=>hk i (by omega)) fun i j hi hj=>h i j (by omega) hj
theorem VW.one{σ σ':St}{a a':AV}(h:VW σ σ' a a')(h1:a.one=true):a'.one=true:=by
 cases h<;>first|exact h1|rfl|cases h1
def VWs(σ σ':St)(cs cs':List AV):Prop:=cs'.length=cs.length∧∀j,j<cs.length→VW σ σ' (cs.getD j (.v undef)) (cs'.getD j (.v undef))
def VWm(σ σ':St):List (Value×AV)→List (Value×AV)→Prop
 | [],[]=>True
 |(x,v)::l,(x',v')::l'=>x'=x∧VW σ σ' v v'∧VWm σ σ' l l'
 |_,_=>False
def OW(σ σ':St):Bn→Bn→Prop
 | .cells cs,.cells cs'=>VWs σ σ' cs cs'
 | .rows q es frz cap,.rows q' es' frz' cap'=>q'=q∧frz'=frz∧cap'=cap∧es'.length=es.length∧∀i,i<es.length→VWs σ σ' (es.getD i []) (es'.getD i [])
 | .map kv,.map kv'=>VWm σ σ' kv kv'
 | .loop fr n ps x y st pend,o'=>o'= .loop fr n ps x y st pend
 |_,_=>False
def SV(σ σ':St):Prop:=∀b o',σ' b=some o'→∃o,σ b=some o∧OW σ σ' o o'
theorem Ch{σ σ':St}(cs:List AV):VWs σ σ' cs cs:=⟨rfl,fun j _=>.refl _⟩
theorem Cm{σ σ':St}:VWs σ σ' [] []:=Ch []
theorem vws_cons{σ σ':St}{a a':AV}{l l':List AV}(h:VW σ σ' a a')(hl:VWs σ σ' l l'):VWs σ σ' (a::l) (a'::l'):=
 ⟨by simp[hl.1],fun j hj=>by
  cases j with
  |zero=>exact h
  |succ j=>exact hl.2 j (by simpa using hj)⟩
theorem vws_same{σ σ':St}{a:AV}{l l':List AV}(hl:VWs σ σ' l l'):VWs σ σ' (a::l) (a::l'):=vws_cons (.refl a) hl
theorem Ww{σ σ':St}:∀(kv:List (Value×AV)),VWm σ σ' kv kv
 | []=>trivial
 |(x,v)::l=>⟨rfl,.refl v,Ww l⟩
theorem Ah4{σ σ':St}(o:Bn):OW σ σ' o o:=by
 cases o with
 |cells cs=>exact Ch cs
 |rows q es frz cap=>exact⟨rfl,rfl,rfl,rfl,fun i _=>Ch _⟩
 |map kv=>exact Ww kv
 |loop fr n ps x y st pend=>exact rfl
theorem Jg{σ σ':St}(h:∀x o',σ' x=some o'→σ x=some o'∨∃o,σ x=some o∧OW σ σ' o o'):SV σ σ':=fun x o' hx=>by
 rcases h x o' hx with h|h
 ·exact⟨o',h,Ah4 o'⟩
 ·exact h
theorem K8{σ σ':St}{b:Nat}{o o':Bn}(h1:σ b=some o)(h2:OW σ (σ'.set b o') o o')(h3:∀x p,x≠b→σ' x=some p→σ x=some p):SV σ (σ'.set b o'):=
 Jg fun x p hx=>by
  by_cases hxb:x=b
  ·subst hxb
   rw[Ab]at hx;injection hx with hx;subst hx;exact .inr ⟨o,h1,h2⟩
  ·rw[Ad hxb]at hx
   exact .inl (h3 x p hxb hx)
theorem Jo{P:Program}{Q:AV→St→Prop}{fr:Fr}{σ:St}{t tt b:Nat}{i:TK}{cs:List AV}(σ':St)(r':AV)(hfr:fr t= .v (.pointer (some ⟨b,0,none⟩)))(hb:σ b=some (.cells cs))(hi:tk P tt=some i)(hag:i.ag=true)(hsz:i.sz=cs.length)
  (hv:Ey σ (.agg cs) σ' r') (hq:Q r' σ'):Fp P Q [.cell t tt] fr σ:=
 ⟨.agg cs,by simp[Bj,No,Oo,Un,hfr,hi,hag,hb,hsz,oneR],r',σ',hv,hq⟩
def C6(F:A6)(σ σ':St):A6:=fun b=>match σ' b,σ b with
 |none,some (.rows q es _ _)=>es.length*q
 |_,_=>F b
section
variable{F:A6}{w:World}{σ σ':St}
theorem Abn(hs:Rel F w σ)(b:Nat):F b≤C6 F σ σ' b:=by
 unfold C6;split
 ·rename_i q es frz cap h1 h2
  obtain⟨c,e,m,g1,g2,g3,g4,g5,g6,g7⟩:=hs.obj b _ h2;rw[g6];split<;>omega
 ·exact Nat.le_refl _
theorem Lx(hs:Rel F w σ):Bh F w (C6 F σ σ') w:=⟨Abn hs,fun _ _ _=>rfl⟩
theorem Vv{b:Nat}{o:Bn}(h:σ' b=some o):C6 F σ σ' b=F b:=by
 unfold C6;rw[h]
theorem Wv(hs:Rel F w σ){a a':AV}(h:VW σ σ' a a'):∀x,RV F w a x→RV (C6 F σ σ') w a' x:=by
 have hkp:Bh F w (C6 F σ σ') w:=Lx hs
 induction h with
 |refl a=>exact fun x hx=>hx.mono hkp
 |nil q=>
  intro x hx;rw[hx.eq];exact .sl0 _ _ _
 |full q es es' hl hk h ih=>
  intro x hx;cases hx with
  |fsl0 _ a=>
   have:es'=[]:=List.eq_nil_of_length_eq_zero (by simpa using hl);subst this;exact .sl0 _ _ _
  |fsl _ _ b o c n hn hkk hF hc hr=>
   have hq:∀i,i<es.length→(es.getD i []).length=q∧(es.getD i []).all AV.one=true:=fun i hi=>by
    rw[List.getD_eq_getElem?_getD,List.getElem?_eq_getElem hi];exact hkk _ (List.getElem_mem hi)
   refine .sl q es' b o c n n (by omega) ?_ (Nat.le_refl _) (by rw[hl];exact Nat.le_trans hF (hkp.le b)) (fun j hj=>hc j (by rw[hl]at hj;exact hj)) (fun i j hi hj=>?_)
   ·intro e he
    obtain⟨i,hi,rfl⟩:=List.mem_iff_getElem.1 he;have hi':i<es.length:=by omega
    have e1:es'[i]=es'.getD i []:=by simp[List.getD_eq_getElem?_getD,hi]
    rw[e1];refine⟨(hk i hi').trans (hq i hi').1,List.all_eq_true.2 fun y hy=>?_⟩;obtain⟨j,hj,rfl⟩:=List.mem_iff_getElem.1 hy;have hj':j<(es.getD i []).length:=by rw[←hk i hi'];exact hj
    have:=(h i j hi' hj').one (by
     rw[List.getD_eq_getElem?_getD,List.getElem?_eq_getElem hj'];exact List.all_eq_true.1 (hq i hi').2 _ (List.getElem_mem hj'))
    rw[List.getD_eq_getElem?_getD,List.getElem?_eq_getElem hj]at this;exact this
   ·rw[hl]at hi
    exact ih i j hi (by rw[(hq i hi).1];exact hj) _ (hr i j hi hj)
 |part q es es' hl hk h ih=>
  intro x hx;cases hx with
  |sl0 _ a cap=>
   have:es'=[]:=List.eq_nil_of_length_eq_zero (by simpa using hl);subst this;exact .sl0 _ _ _
  |sl _ _ b o c n cap hn hkk hcap hF hc hr=>
   have hq:∀i,i<es.length→(es.getD i []).length=q∧(es.getD i []).all AV.one=true:=fun i hi=>by
    rw[List.getD_eq_getElem?_getD,List.getElem?_eq_getElem hi];exact hkk _ (List.getElem_mem hi)
   refine .sl q es' b o c n cap (by omega) ?_ hcap (by rw[hl];exact Nat.le_trans hF (hkp.le b)) (fun j hj=>hc j (by rw[hl]at hj;exact hj)) (fun i j hi hj=>?_)
   ·intro e he
    obtain⟨i,hi,rfl⟩:=List.mem_iff_getElem.1 he;have hi':i<es.length:=by omega
    have e1:es'[i]=es'.getD i []:=by simp[List.getD_eq_getElem?_getD,hi]
    rw[e1];refine⟨(hk i hi').trans (hq i hi').1,List.all_eq_true.2 fun y hy=>?_⟩;obtain⟨j,hj,rfl⟩:=List.mem_iff_getElem.1 hy;have hj':j<(es.getD i []).length:=by rw[←hk i hi'];exact hj
    have:=(h i j hi' hj').one (by
     rw[List.getD_eq_getElem?_getD,List.getElem?_eq_getElem hj'];exact List.all_eq_true.1 (hq i hi').2 _ (List.getElem_mem hj'))
    rw[List.getD_eq_getElem?_getD,List.getElem?_eq_getElem hj]at this;exact this
   ·rw[hl]at hi
    exact ih i j hi (by rw[(hq i hi).1];exact hj) _ (hr i j hi hj)
 |rowp b q es es' frz cap n cc hb hb' hn hcc hl hk h ih=>
  intro x hx;rw[hx.eq];obtain⟨c,e,m,g1,g2,g3,g4,g5,g6,g7⟩:=hs.obj b _ hb;have hq:∀i,i<es.length→(es.getD i []).length=q∧(es.getD i []).all AV.one=true:=fun i hi=>by
   rw[List.getD_eq_getElem?_getD,List.getElem?_eq_getElem hi];exact g4 _ (List.getElem_mem hi)
  have hle:es.length*q≤cap*q:=Nat.mul_le_mul_right _ g3;have hnl:n*q≤es.length*q:=Nat.mul_le_mul_right _ hn;have hF:C6 F σ σ' b=es.length*q:=by unfold C6;rw[hb',hb]
  refine .sl q es' b 0 (fun j=>c.getD j undef) n cc (by omega) ?_ hcc (by rw[hl,hF];omega) (fun j hj=>?_) (fun i j hi hj=>?_)
  ·intro e he
   obtain⟨i,hi,rfl⟩:=List.mem_iff_getElem.1 he;have hi':i<n:=by omega
   have e1:es'[i]=es'.getD i []:=by simp[List.getD_eq_getElem?_getD,hi]
   rw[e1];refine⟨(hk i hi').trans (hq i (by omega)).1,List.all_eq_true.2 fun y hy=>?_⟩;obtain⟨j,hj,rfl⟩:=List.mem_iff_getElem.1 hy;have hj':j<(es.getD i []).length:=by rw[←hk i hi'];exact hj
   have:=(h i j hi' hj').one (by
    rw[List.getD_eq_getElem?_getD,List.getElem?_eq_getElem hj'];exact List.all_eq_true.1 (hq i (by omega)).2 _ (List.getElem_mem hj'))
   rw[List.getD_eq_getElem?_getD,List.getElem?_eq_getElem hj]at this;exact this
  ·rw[hl]at hj
   have hlt:j<c.size:=by omega
   simp[World.cell?,g1,hlt]
  ·rw[hl]at hi
   exact ih i j hi (by rw[(hq i (by omega)).1];exact hj) _ (g7 i j (by omega) hj)
 |agg cs cs' hl h ih=>
  intro x hx;cases hx with
  |agg _ vs hl' h'=>exact .agg cs' vs (by omega) fun j hj=>ih j (by omega) _ (h' j (by omega))
 |tup cs cs' hl h ih=>
  intro x hx;cases hx with
  |tup _ vs hl' h'=>exact .tup cs' vs (by omega) fun j hj=>ih j (by omega) _ (h' j (by omega))
theorem Aau{cs cs':List AV}(h:VWs σ σ' cs cs')(h1:cs.all AV.one=true):cs'.all AV.one=true:=List.all_eq_true.2 fun y hy=>by
 obtain⟨j,hj,rfl⟩:=List.mem_iff_getElem.1 hy;have hj':j<cs.length:=by rw[←h.1];exact hj
 have:=(h.2 j hj').one (by
  rw[List.getD_eq_getElem?_getD,List.getElem?_eq_getElem hj'];exact List.all_eq_true.1 h1 _ (List.getElem_mem hj'))
 simpa[List.getD_eq_getElem?_getD,hj]using this
theorem Afn(hs:Rel F w σ):∀{kv kv':List (Value×AV)} {es:List MapEntry},VWm σ σ' kv kv'→KVs F w kv es→KVs (C6 F σ σ') w kv' es
 | [],[],[],_,_=>trivial
 |(x,v)::l,(x',v')::l',e::es,h,g=>⟨by rw[h.1];exact g.1,Wv hs h.2.1 _ g.2.1,Afn hs h.2.2 g.2.2⟩
 | [],_::_,_,h,_=>h.elim
 |_::_,[],_,h,_=>h.elim
 | [],[],_::_,_,g=>g.elim
 |_::_,_::_,[],_,g=>g.elim
theorem view_of{a a':AV}(hS:SV σ σ')(ha:VW σ σ' a a'):Ey σ a σ' a':=by
 intro F w x hs hv;have hkp:Bh F w (C6 F σ σ') w:=Lx hs;refine⟨C6 F σ σ',⟨hkp,rfl,rfl,rfl,Nat.le_refl _,fun b _ hb=>⟨rfl,?_,?_⟩⟩,⟨fun b o' hb=>?_,fun b hb=>?_⟩,Wv hs ha x hv⟩
 ·cases h':σ' b with
  |none=>rfl
  |some o=>
   obtain⟨o,ho,_⟩:=hS b o h';rw[hb]at ho;cases ho
 ·unfold C6
  rw[hb];split
  ·rename_i h;cases h
  ·rfl
 ·obtain⟨o,ho,how⟩:=hS b o' hb
  have hh:=hs.obj b o ho;have hFb:C6 F σ σ' b=F b:=Vv hb;cases o with
  |cells cs=>
   cases o' with
   |cells cs'=>
    obtain⟨c,e,m,g1,g2,g3,g4,g5,g6⟩:=hh;exact⟨c,e,m,g1,by rw[g2,how.1],g3,hFb.trans g4,Aau how g5,fun j hj=>Wv hs (how.2 j (by rw[←how.1];exact hj)) _ (g6 j (by rw[←how.1];exact hj))⟩
   |_=>exact how.elim
  |rows q es frz cap=>
   cases o' with
   |rows q' es' frz' cap'=>
    obtain⟨rfl,rfl,rfl,hl,hw⟩:=how;obtain⟨c,e,m,g1,g2,g3,g4,g5,g6,g7⟩:=hh;have hq:∀i,i<es.length→(es.getD i []).length=q'∧(es.getD i []).all AV.one=true:=fun i hi=>by
     rw[List.getD_eq_getElem?_getD,List.getElem?_eq_getElem hi];exact g4 _ (List.getElem_mem hi)
    refine⟨c,e,m,g1,g2,by omega,fun e he=>?_,g5,by rw[hFb,g6,hl],fun i j hi hj=>?_⟩
    ·obtain⟨i,hi,rfl⟩:=List.mem_iff_getElem.1 he
     have hi':i<es.length:=by omega
     have e1:es'[i]=es'.getD i []:=by simp[List.getD_eq_getElem?_getD,hi]
     rw[e1];exact⟨(hw i hi').1.trans (hq i hi').1,Aau (hw i hi') (hq i hi').2⟩
    ·rw[hl]at hi
     exact Wv hs ((hw i hi).2 j (by rw[(hq i hi).1];exact hj)) _ (g7 i j hi hj)
   |_=>exact how.elim
  |map kv=>
   cases o' with
   |map kv'=>
    obtain⟨es,clk,g1,g2,g3⟩:=hh;exact⟨es,clk,g1,hFb.trans g2,Afn hs how g3⟩
   |_=>exact how.elim
  |loop fr n ps x y st pend=>
   have how:o'= .loop fr n ps x y st pend:=how;subst how;have:=hh.mono hkp rfl hFb;exact this
 ·unfold C6
  split
  ·rename_i q es frz cap h1 h2
   have:=hs.lt_size h2;omega
  ·exact hs.lt b hb
end
def Cz(σ0 σ:St)(lv:AV):Prop:=∀y p,σ0 y=some p→σ y=some p∧¬Own lv y
section
variable{q:Nat}{σ0 σ σ':St}{lv lv':AV}{es es':List (List AV)}
theorem Cz.nil:Cz σ σ (.v (.slice none 0 0)):=fun y p h=>⟨h,fun⟨n,c,e⟩=>by cases e⟩
theorem Cz.sub(h:Cz σ0 σ lv):∀y p,σ0 y=some p→σ y=some p:=fun y p hy=>(h y p hy).1
theorem Cz.step(h:Cz σ0 σ lv)(hs:∀x o,σ x=some o→¬Own lv x→σ' x=some o∧¬Own lv' x):Cz σ0 σ' lv':=fun y p hy=>hs y p (h y p hy).1 (h y p hy).2
theorem Cz.own(h:Cz σ0 σ lv){x:Nat}(hx:Own lv x):σ0 x=none:=by
 cases h':σ0 x with
 |none=>rfl
 |some p=>exact absurd hx (h x p h').2
theorem LAt.vw(h:LAt q σ lv es)(hd:∀x,Own lv x→σ' x=Option.none)(hl:es'.length=es.length)(hk:∀i,i<es.length→VWs σ σ' (es.getD i []) (es'.getD i [])):VW σ σ' lv (.sl q es'):=by
 rcases h with⟨rfl,rfl⟩|rfl|⟨b,cap,rfl,hc,hb⟩
 ·have:es'=[]:=List.eq_nil_of_length_eq_zero (by simpa using hl)
  subst this;exact .nil q
 ·exact .full q es es' hl (fun i hi=>(hk i hi).1) fun i j hi hj=>(hk i hi).2 j hj
 ·exact .row b q es es' false cap _ _ hb (hd b ⟨_,_,rfl⟩) rfl hc hl (fun i hi=>(hk i hi).1) fun i j hi hj=>(hk i hi).2 j hj
theorem LAt.vw_same(h:LAt q σ lv es)(hd:∀x,Own lv x→σ' x=Option.none):VW σ σ' lv (.sl q es):=h.vw hd rfl fun i _=>Ch _
end
theorem Vu(F:A6)(σ:St):C6 F σ σ=F:=by
 funext b;unfold C6;cases σ b<;>rfl
theorem Afo{F:A6}{w:World}{σ:St}{cs cs':List AV}{vs:List Value}(hs:Rel F w σ)(h:VWs σ σ cs cs')(hv:RVs F w cs vs):RVs F w cs' vs:=
 ⟨hv.1.trans h.1.symm,fun j hj=>by
  have hj':j<cs.length:=by rw[←h.1];exact hj
  have:=Wv hs (h.2 j hj') _ (hv.2 j hj');rwa[Vu]at this⟩
theorem AT.weak{P:Program}{f:FuncId}{args args':List AV}{σ:St}{Q:AV→St→Prop}(h:AT P f args' σ Q)(hw:VWs σ σ args args'):AT P f args σ Q:=by
 rcases h with⟨h1,h2⟩|⟨h1,h2⟩
 ·exact .inl ⟨h1,fun F w vs hs hv=>h2 F w vs hs (Afo hs hw hv)⟩
 ·refine .inr ⟨h1,h2.elim (fun⟨h3,h2⟩=>.inl ⟨h3,?_⟩) fun h=>.inr ⟨h.1,fun F w vs hs hv=>h.2 F w vs hs (Afo hs hw hv)⟩⟩
  unfold Kk at h2;split at h2
  ·rename_i t r
   match args,hw with
   | [],hw=>exact absurd hw.1 (by simp)
   |_::_::_,hw=>exact absurd hw.1 (by simp)
   | [a],hw=>
    have:=hw.2 0 (by simp);simp only[List.getD_cons_zero]at this;cases this
    exact h2
  ·exact h2.elim
theorem AT.post{P:Program}{f:FuncId}{args:List AV}{σ:St}{Q Q':AV→St→Prop}(h:AT P f args σ Q)(hn:Rq P f=false)(hq:∀r σ',Q r σ'→∃r2 σ2,Ey σ' r σ2 r2∧Q' r2 σ2):AT P f args σ Q':=by
 rcases h with⟨h1,h2⟩|⟨h1,h2⟩
 ·refine .inl ⟨h1,fun F w vs hs hv=>(h2 F w vs hs hv).mono fun e w' ⟨x,F',σ',r,g1,g2,g3,g4,g5⟩=>?_⟩
  obtain⟨r2,σ2,hv,hq2⟩:=hq r σ' g5;obtain⟨F2,k1,k2,k3⟩:=hv F' w' x g3 g4;exact⟨x,F2,σ2,r2,g1,g2.trans k1,k2,k3,hq2⟩
 ·rw[hn]at h1;cases h1
open Go Go.RowKit Go.ChangeShapes Go.WideShapes
open Go.ChangeMaps (open_string shut_string)
def Each(p:TypeId→List AV→Prop):List TypeId→List AV→Prop
 | [],cs=>cs=[]
 |t::ts,cs=>∃x y,cs=x++y∧p t x∧Each p ts y
def Ack(p:List AV→Prop):Nat→List AV→Prop
 |0,cs=>cs=[]
 |n+1,cs=>∃x y,cs=x++y∧p x∧Ack p n y
def Ty(P:Program):Nat→TypeId→List AV→Prop
 |0,_,_=>False
 |n+1,t,cs=>match P.underlying t with
  |some .bool=>∃b,cs=[.v (.bool b)]
  |some (.int k)=>∃x,cs=[.v (.int k x)]∧(Lit.int k x).wf=true
  |some .string=>∃s,cs=[.v (.string s)]∧s.size≤140737488351232
  |some (.slice e)=>∃es,cs=[.sl (P.cellsOf e) es]∧es.length*P.bytesOf e≤140737488351232∧∀x∈es,Ty P n e x
  |some (.struct fs)=>Each (Ty P n) (fs.toList.map Field.type) cs
  |some (.array k e)=>Ack (Ty P n e) k cs
  |_=>False
def TyA(P:Program)(n:Nat)(t:TypeId)(a:AV):Prop:=
 match P.underlying t with
 |some (.struct _)|some (.array _ _)=>∃cs,a= .agg cs∧Ty P n t cs
 |_=>Ty P n t [a]
def TyAs(P:Program)(n:Nat):List TypeId→List AV→Prop
 | [],[]=>True
 |t::ts,a::as=>TyA P n t a∧TyAs P n ts as
 |_,_=>False
theorem Aff{P:Program}{n:Nat}{xs:List AV}(h:TyAs P n [] xs):xs=[]:=by
 cases xs with
 |nil=>rfl
 |cons a xs=>exact h.elim
theorem Acc{P:Program}{n:Nat}{t:TypeId}{ts:List TypeId}{xs:List AV}(h:TyAs P n (t::ts) xs):∃a ys,xs=a::ys∧TyA P n t a∧TyAs P n ts ys:=by
 cases xs with
 |nil=>exact h.elim
 |cons a xs=>exact⟨a,xs,rfl,h.1,h.2⟩
theorem tyAs1{P:Program}{n:Nat}{t:TypeId}{xs:List AV}(h:TyAs P n [t] xs):∃a,xs=[a]∧TyA P n t a:=by
 obtain⟨a,ys,rfl,ha,h⟩:=Acc h;obtain rfl:=Aff h;exact⟨a,rfl,ha⟩
theorem Aio{P:Program}{n:Nat}{t:TypeId}{cs:List AV}(hu:P.underlying t=some .bool)(h:Ty P (n+1) t cs):∃b,cs=[.v (.bool b)]:=by
 unfold Ty at h;rw[hu]at h;exact h
theorem Alh{P:Program}{n:Nat}{t:TypeId}{k:IntKind}{cs:List AV}(hu:P.underlying t=some (.int k))(h:Ty P (n+1) t cs):∃x,cs=[.v (.int k x)]∧(Lit.int k x).wf=true:=by
 unfold Ty at h;rw[hu]at h;exact h
theorem Ud{P:Program}{n:Nat}{t:TypeId}{cs:List AV}(hu:P.underlying t=some .string)(h:Ty P (n+1) t cs):∃s,cs=[.v (.string s)]∧s.size≤140737488351232:=by
 unfold Ty at h;rw[hu]at h;exact h
theorem Amx{P:Program}{n:Nat}{t e:TypeId}{cs:List AV}(hu:P.underlying t=some (.slice e))(h:Ty P (n+1) t cs):∃es,cs=[.sl (P.cellsOf e) es]∧es.length*P.bytesOf e≤140737488351232∧∀x∈es,Ty P n e x:=by
 unfold Ty at h;rw[hu]at h;exact h
theorem Aj2{P:Program}{n:Nat}{t:TypeId}{fs:Array Field}{cs:List AV}(hu:P.underlying t=some (.struct fs))(h:Ty P (n+1) t cs):Each (Ty P n) (fs.toList.map Field.type) cs:=by
 unfold Ty at h;rw[hu]at h;exact h
def Pq(P:Program):Nat→List Field→Nat→Bool
 |o,[],m=>o==m
 |o,f::fs,m=>f.offset==o&&Pq P (o+P.cellsOf f.type) fs m
def plain(P:Program):Nat→TypeId→Bool
 |0,_=>false
 |n+1,t=>match P.underlying t with
  |some .bool|some (.int _)|some .string=>P.cellsOf t==1
  |some (.slice e)=>P.cellsOf t==1&&plain P n e&&decide (0<P.cellsOf e)
  |some (.struct fs)=>Pq P 0 fs.toList (P.cellsOf t)&&fs.toList.all fun f:Field=>plain P n f.type
  |some (.array k e)=>P.cellsOf t==k*P.cellsOf e&&plain P n e
  |_=>false
def Ku(w:World):A6:=fun b=>match w.heap[b]? with
 |some (.cells c _ _)=>c.size
 |_=>0
theorem Ab1(w:World):Rel (Ku w) w (fun _=>none):=
 ⟨fun b o h=>(by cases h),fun b hb=>(by simp[Ku,Array.getElem?_eq_none hb])⟩
theorem Abo{w:World}{b o:Nat}{v:Value}(h:w.cell? ⟨b,o,none⟩=some v):o<Ku w b:=by
 unfold World.cell? at h;unfold Ku;split at h
 ·rename_i c e m hc
  simp only at hc;rw[hc];simp at h;exact(Array.getElem?_eq_some_iff.1 h).1
 ·cases h
theorem Uu{p:Nat→List AV→Prop}(n:Nat)(h:∀i,i<n→∃x,p i x):∃es:List (List AV),es.length=n∧∀i,i<n→p i (es.getD i []):=by
 induction n with
 |zero=>exact⟨[],rfl,fun i hi=>by omega⟩
 |succ n ih=>
  obtain⟨es,h1,h2⟩:=ih fun i hi=>h i (by omega);obtain⟨x,hx⟩:=h n (by omega);refine⟨es++[x],by simp[h1],fun i hi=>?_⟩;by_cases hin:i<n
  ·have:=h2 i hin
   simpa[List.getD_eq_getElem?_getD,List.getElem?_append_left (h1▸hin)]using this
  ·obtain rfl:i=n:=by omega
   simpa[List.getD_eq_getElem?_getD,←h1]using hx
section
variable{H:Type}{enc:TypeId×Value→H}{P:Program}{w:World}
theorem RVs.one1{F:A6}{a:AV}{x:Value}(h:RV F w a x):RVs F w [a] [x]:=
 ⟨rfl,fun j hj=>by
  obtain rfl:j=0:=by simpa using hj
  exact h⟩
theorem RVs.app{F:A6}{cs cs':List AV}{vs vs':List Value}(h:RVs F w cs vs)(h':RVs F w cs' vs'):RVs F w (cs++cs') (vs++vs'):=
 ⟨by simp[h.1,h'.1],fun j hj=>by
  simp only[List.getD_eq_getElem?_getD];by_cases hlt:j<cs.length
  ·rw[List.getElem?_append_left hlt,List.getElem?_append_left (by rw[h.1];exact hlt)]
   simpa[List.getD_eq_getElem?_getD]using h.2 j hlt
  ·rw[List.getElem?_append_right (by omega),List.getElem?_append_right (by rw[h.1];omega),h.1]
   have:=h'.2 (j-cs.length) (by simp at hj;omega);simpa[List.getD_eq_getElem?_getD]using this⟩
def Yz(P:Program)(n:Nat)(w:World)(t:TypeId)(cs:List Value):Prop:=
 ∃avs,Ty P n t avs∧RVs (Ku w) w avs cs∧avs.all AV.one=true∧avs.length=P.cellsOf t
theorem Ri{n m:Nat}{cs:List Value}(ih:∀(t:TypeId) (cs:List Value) (x:DataW H×List MemPlace),plain P n t=true→DataW.trod enc P w 0 (fun _=>true) true m t cs=some x→(∀q∈x.1.weights P t,q≤reachBytes)→Yz P n w t cs):
  ∀(fs:List Field) (o:Nat) (xs:List (DataW H×List MemPlace)),Pq P o fs cs.length=true→(fs.all fun f:Field=>plain P n f.type)=true→xs.length=fs.length→
   (∀(i:Nat) (f:Field),fs[i]? =some f→DataW.trod enc P w 0 (fun _=>true) true m f.type ((cs.drop f.offset).take (P.cellsOf f.type))=xs[i]?)→
   (∀q∈DataW.weightsEach P (fs.map Field.type) (xs.map (·.1)),q≤reachBytes)→
   ∃avs,Each (Ty P n) (fs.map Field.type) avs∧RVs (Ku w) w avs (cs.drop o)∧avs.all AV.one=true∧o+avs.length=cs.length
 | [],o,xs,hf,hp,hl,hx,hw=>by
  simp only[Pq,beq_iff_eq]at hf;refine⟨[],rfl,⟨by simp[hf],fun j hj=>by simp at hj⟩,rfl,by simpa using hf⟩
 |f::fs,o,[],hf,hp,hl,hx,hw=>by simp at hl
 |f::fs,o,x::xs,hf,hp,hl,hx,hw=>by
  simp only[Pq,Bool.and_eq_true,beq_iff_eq]at hf;simp only[List.all_cons,Bool.and_eq_true]at hp;have h0:=hx 0 f rfl;simp only[List.getElem?_cons_zero]at h0;obtain⟨a,a1,a2,a3,a4⟩:=ih f.type _ x hp.1 h0 (fun q hq=>hw q (by simp only[List.map_cons,DataW.weightsEach,List.mem_append];exact .inl hq));obtain⟨b,b1,b2,b3,b4⟩:=Ri (cs:=cs) ih fs (o+P.cellsOf f.type) xs hf.2 hp.2 (by simpa using hl) (fun i g hg=>by simpa using hx (i+1) g (by simpa using hg)) (fun q hq=>hw q (by simp only[List.map_cons,DataW.weightsEach,List.mem_append];exact .inr hq));refine⟨a++b,⟨a,b,rfl,a1,b1⟩,?_,by simp[a3,b3],by simp;omega⟩;have hcut:cs.drop o=(cs.drop f.offset).take (P.cellsOf f.type)++cs.drop (o+P.cellsOf f.type):=by
   rw[hf.1,←List.drop_drop,List.take_append_drop]
  rw[hcut];exact a2.app b2
theorem Qm{n m:Nat}{e:TypeId}{cs:List Value}(ih:∀(cs:List Value) (x:DataW H×List MemPlace),DataW.trod enc P w 0 (fun _=>true) true m e cs=some x→(∀q∈x.1.weights P e,q≤reachBytes)→Yz P n w e cs):
  ∀(k o:Nat) (xs:List (DataW H×List MemPlace)),o+k*P.cellsOf e=cs.length→xs.length=k→
   (∀i,i<k→DataW.trod enc P w 0 (fun _=>true) true m e ((cs.drop (o+i*P.cellsOf e)).take (P.cellsOf e))=xs[i]?)→
   (∀q∈DataW.weightsAll P e (xs.map (·.1)),q≤reachBytes)→
   ∃avs,Ack (Ty P n e) k avs∧RVs (Ku w) w avs (cs.drop o)∧avs.all AV.one=true∧o+avs.length=cs.length
 |0,o,xs,hf,hl,hx,hw=>by
  simp only[Nat.zero_mul,Nat.add_zero]at hf;refine⟨[],rfl,⟨by simp[hf],fun j hj=>by simp at hj⟩,rfl,by simpa using hf⟩
 |k+1,o,[],hf,hl,hx,hw=>by simp at hl
 |k+1,o,x::xs,hf,hl,hx,hw=>by
  have h0:=hx 0 (by omega);simp only[List.getElem?_cons_zero,Nat.zero_mul,Nat.add_zero]at h0;rw[Nat.add_mul,Nat.one_mul]at hf;obtain⟨a,a1,a2,a3,a4⟩:=ih _ x h0 (fun q hq=>hw q (by simp only[List.map_cons,DataW.weightsAll,List.mem_append];exact .inl hq))
  obtain⟨b,b1,b2,b3,b4⟩:=Qm (cs:=cs) ih k (o+P.cellsOf e) xs (by omega) (by simpa using hl) (fun i hi=>by
   have:=hx (i+1) (by omega);rw[Nat.add_mul,Nat.one_mul]at this;rw[show o+P.cellsOf e+i*P.cellsOf e=o+(i*P.cellsOf e+P.cellsOf e) by omega];simpa using this) (fun q hq=>hw q (by simp only[List.map_cons,DataW.weightsAll,List.mem_append];exact .inr hq))
  refine⟨a++b,⟨a,b,rfl,a1,b1⟩,?_,by simp[a3,b3],by rw[List.length_append];omega⟩;have hcut:cs.drop o=(cs.drop o).take (P.cellsOf e)++cs.drop (o+P.cellsOf e):=by
   rw[←List.drop_drop,List.take_append_drop]
  rw[hcut];exact a2.app b2
theorem Jj{e:TypeId}:∀{ds:List (DataW H)} {d:DataW H},d∈ds→∀q∈d.weights P e,q∈DataW.weightsAll P e ds
 |d0::ds,d,hd,q,hq=>by
  simp only[DataW.weightsAll,List.mem_append];rcases List.mem_cons.1 hd with rfl|hd
  ·exact .inl hq
  ·exact .inr (Jj hd q hq)
theorem X4:∀(n:Nat) (m:Nat) (t:TypeId) (cs:List Value) (x:DataW H×List MemPlace),plain P n t=true→DataW.trod enc P w 0 (fun _=>true) true m t cs=some x→(∀q∈x.1.weights P t,q≤reachBytes)→Yz P n w t cs:=by
 intro n
 induction n with
 |zero=>intro m t cs x hp;simp[plain]at hp
 |succ n ih=>
  intro m t cs x hp hx hw;unfold plain at hp;unfold Yz;unfold Ty;cases hu:P.underlying t with
  |none=>rw[hu]at hp;cases hp
  |some d=>
   rw[hu]at hp;cases d<;>simp only at hp<;>try (exact absurd hp (by decide))
   case bool=>
    obtain⟨b,rfl,rfl⟩:=DataW.trod_bool hu hx;exact⟨[.v (.bool b)],⟨b,rfl⟩,RVs.one1 (.v _),rfl,by simpa using(beq_iff_eq.1 hp).symm⟩
   case int k=>
    obtain⟨b,rfl,rfl,hwf⟩:=DataW.trod_int hu hx;exact⟨[.v (.int k b)],⟨b,rfl,hwf⟩,RVs.one1 (.v _),rfl,by simpa using(beq_iff_eq.1 hp).symm⟩
   case string=>
    obtain⟨s,rfl,rfl,hs⟩:=DataW.trod_string hu hx;refine⟨[.v (.string s)],⟨s,rfl,?_⟩,RVs.one1 (.v _),rfl,by simpa using(beq_iff_eq.1 hp).symm⟩;have:=hw s.data.toList.length (by simp[DataW.weights]);simpa[reachBytes]using this
   case slice e=>
    simp only[Bool.and_eq_true,beq_iff_eq,decide_eq_true_eq]at hp;obtain⟨⟨hp1,hp2⟩,hp3⟩:=hp;rcases DataW.trod_slice hu hx with⟨rfl,rfl⟩|⟨a,len,cap,elems,rest,m',rfl,rfl,rfl,hb,hl,hm,hlen,hel,hsp,hns⟩
    ·exact⟨[.sl (P.cellsOf e) []],⟨[],rfl,by simp,fun x hx=>by cases hx⟩,RVs.one1 (.sl0 _ _ _),rfl,by simpa using hp1.symm⟩
    ·simp only[DataW.weights,hu,List.mem_cons,List.mem_append]at hw
     have hbytes:=hw _ (.inl rfl);have each:∀i,i<len→∃avs,(Ty P n e avs∧avs.all AV.one=true∧avs.length=P.cellsOf e)∧∃vs:List Value,vs.length=P.cellsOf e∧(∀j,j<P.cellsOf e→w.cell? ((a.add (i*P.cellsOf e)).add j)=vs[j]?)∧RVs (Ku w) w avs vs:=by
      intro i hi;have h1:=hel i hi;have hi':i<elems.length:=by omega
      rw[List.getElem?_eq_getElem hi']at h1;obtain⟨vs,hcs,htr⟩:=Option.bind_eq_some_iff.1 h1;obtain⟨_,hvl,hvs⟩:=World.cells?_some hcs;obtain⟨avs,k1,k2,k3,k4⟩:=ih m' e vs _ hp2 htr (fun q hq=>hw q (.inr (.inl (Jj (List.mem_map.2 ⟨_,List.getElem_mem hi',rfl⟩) q hq))));exact⟨avs,⟨k1,k3,k4⟩,vs,hvl,hvs,k2⟩
     obtain⟨es,he1,he2⟩:=Uu len each;refine⟨[.sl (P.cellsOf e) es],⟨es,rfl,?_,?_⟩,RVs.one1 ?_,rfl,by simpa using hp1.symm⟩
     ·have:es.length*P.bytesOf e≤((elems.map (·.1)).length+(rest.map (·.1)).length)*P.bytesOf e:=Nat.mul_le_mul_right _ (by simp;omega)
      exact Nat.le_trans this (by simpa[reachBytes]using hbytes)
     ·intro x hx
      obtain⟨i,hi,rfl⟩:=List.mem_iff_getElem.1 hx;have:=(he2 i (by omega)).1.1;simpa[List.getD_eq_getElem?_getD,hi]using this
     ·by_cases h0:len=0
      ·have:es=[]:=List.eq_nil_of_length_eq_zero (by omega)
       subst this;subst h0;exact .sl0 _ _ _
      ·obtain⟨b,o,sp⟩:=a
       have hsp0:sp=none:=by
        obtain⟨_,vs,hvl,hvs,_⟩:=he2 0 (by omega);have h1:=hvs 0 hp3;rw[List.getElem?_eq_getElem (by omega)]at h1;simp only[Nat.zero_mul,Addr.add,if_pos]at h1;unfold World.cell? at h1;split at h1
        ·cases sp with
         |none=>rfl
         |some _=>simp at h1
        ·cases h1
       subst hsp0;have hadd:∀b o n,(⟨b,o,none⟩:Addr).add n=⟨b,o+n,none⟩:=by
        intro b o n;unfold Addr.add;split
        ·rename_i h;subst h;rfl
        ·rfl
       have hcell:∀i j,i<len→j<P.cellsOf e→∃v,w.cell? ⟨b,o+(i*P.cellsOf e+j),none⟩=some v∧RV (Ku w) w ((es.getD i []).getD j (.v undef)) v:=by
        intro i j hi hj;obtain⟨⟨k1,k3,k4⟩,vs,hvl,hvs,hrv⟩:=he2 i hi;have h1:=hvs j hj;rw[List.getElem?_eq_getElem (by omega),hadd,hadd]at h1;refine⟨vs[j]'(by omega),?_,?_⟩
        ·simpa[Nat.add_assoc]using h1
        ·have:=hrv.2 j (by omega)
         simpa[List.getD_eq_getElem?_getD,hvl,hj]using this
       have hall:∀j,j<es.length*P.cellsOf e→w.cell? ⟨b,o+j,none⟩=some ((w.cell? ⟨b,o+j,none⟩).getD undef):=by
        intro j hj;obtain⟨v,hv,_⟩:=hcell (j/P.cellsOf e) (j % P.cellsOf e) (by rw[←he1];exact Nat.div_lt_of_lt_mul (by rw[Nat.mul_comm];exact hj)) (Nat.mod_lt _ hp3);rw[Nat.mul_comm,Nat.div_add_mod]at hv;rw[hv];rfl
       refine .sl _ es b o (fun j=>(w.cell? ⟨b,o+j,none⟩).getD undef) len cap he1.symm ?_ hl ?_ hall ?_
       ·intro x hx
        obtain⟨i,hi,rfl⟩:=List.mem_iff_getElem.1 hx;obtain⟨⟨k1,k3,k4⟩,_⟩:=he2 i (by omega);have e1:es.getD i []=es[i]:=by simp[List.getD_eq_getElem?_getD,hi]
        rw[e1]at k3 k4;exact⟨k4,k3⟩
       ·have hpos:0<es.length*P.cellsOf e:=Nat.mul_pos (by omega) hp3
        have:=Abo (hall (es.length*P.cellsOf e-1) (by omega));omega
       ·intro i j hi hj
        obtain⟨v,hv,hr⟩:=hcell i j (by omega) hj;simp only[hv,Option.getD_some];exact hr
   case struct fs=>
    simp only[Bool.and_eq_true]at hp;obtain⟨xs,m',rfl,rfl,hcl,hxl,hxs⟩:=DataW.trod_struct hu hx;simp only[DataW.weights,hu]at hw;obtain⟨avs,h1,h2,h3,h4⟩:=Ri (n:=n) (m:=m') (cs:=cs) (fun t cs x=>ih m' t cs x) fs.toList 0 xs (by rw[hcl];exact hp.1) hp.2 (by simpa using hxl) (fun i f hf=>hxs i f (by simpa using hf)) hw;exact⟨avs,h1,by simpa using h2,h3,by omega⟩
   case array k e=>
    simp only[Bool.and_eq_true,beq_iff_eq]at hp;obtain⟨xs,m',rfl,rfl,hcl,hxl,hxs⟩:=DataW.trod_array hu hx;simp only[DataW.weights,hu]at hw;obtain⟨avs,h1,h2,h3,h4⟩:=Qm (n:=n) (m:=m') (e:=e) (cs:=cs) (fun cs x=>ih m' e cs x hp.2) k 0 xs (by rw[hcl,hp.1];simp) hxl (fun i hi=>by simpa using hxs i hi) hw;exact⟨avs,h1,by simpa using h2,h3,by omega⟩
theorem Aet{n:Nat}{t:TypeId}{v:Value}{d:DataW H}{ps:List MemPlace}{base:Nat}(hp:plain P n t=true)(hval:Value.okWide P w .any base t v)(h:DataW.Trod enc P w 0 (fun _=>true) true t v d ps)(hw:∀q∈d.weights P t,q≤reachBytes):
  ∃a,TyA P n t a∧RV (Ku w) w a v:=by
 obtain⟨m,hm⟩:=h;obtain⟨avs,h1,h2,h3,h4⟩:=X4 n m t _ _ hp hm hw;have agg:∀cs:Array Value,v= .agg cs→RV (Ku w) w (.agg avs) v:=by
  rintro cs rfl;exact .agg avs cs (by simpa[Value.cells]using h2.1) (fun j hj=>by simpa[Value.cells]using h2.2 j hj)
 have one:∀x,v.cells.toList=[x]→v=x→∃a,avs=[a]∧RV (Ku w) w a v:=by
  rintro x hx rfl;rw[hx]at h2;obtain⟨a,rfl⟩:∃a,avs=[a]:=List.length_eq_one_iff.1 (by have:=h2.1;simpa using this.symm);exact⟨a,rfl,h2.2 0 (by simp)⟩
 unfold TyA;cases n with
 |zero=>simp[plain]at hp
 |succ n=>
  have hp0:=hp;unfold plain at hp0;cases hu:P.underlying t with
  |none=>rw[hu]at hp0;cases hp0
  |some u=>
   rw[hu]at hp0;cases u<;>simp only at hp0<;>try (exact absurd hp0 (by decide))
   case struct fs=>
    unfold Value.okWide at hval;rw[hu]at hval;obtain⟨cs,hv,_⟩:=hval;exact⟨_,⟨avs,rfl,h1⟩,agg cs hv⟩
   case array k e=>
    unfold Value.okWide at hval;rw[hu]at hval;obtain⟨cs,hv,_⟩:=hval;exact⟨_,⟨avs,rfl,h1⟩,agg cs hv⟩
   case bool=>
    obtain⟨b,rfl,_⟩:=open_bool hu hval ⟨m,hm⟩;obtain⟨a,rfl,ha⟩:=one _ rfl rfl;exact⟨a,h1,ha⟩
   case int k=>
    obtain⟨b,rfl,_⟩:=open_int hu hval ⟨m,hm⟩;obtain⟨a,rfl,ha⟩:=one _ rfl rfl;exact⟨a,h1,ha⟩
   case string=>
    obtain⟨b,rfl,_⟩:=open_string hu hval ⟨m,hm⟩;obtain⟨a,rfl,ha⟩:=one _ rfl rfl;exact⟨a,h1,ha⟩
   case slice e=>
    obtain⟨a,len,cap,rfl⟩:=okWide_slice hu hval;obtain⟨a,rfl,ha⟩:=one _ rfl rfl;exact⟨a,h1,ha⟩
theorem open_args{n base:Nat}:∀(ts:List TypeId) (vs:List Value) (ds:List (DataW H)) (ps:List MemPlace),ts.all (plain P n)=true→(∀(j:Nat) t v,ts[j]? =some t→vs[j]? =some v→Value.okWide P w .any base t v)→
  DataW.TrodAll enc P w 0 (fun _=>true) true ts vs ds ps→(∀q∈DataW.weightsEach P ts ds,q≤reachBytes)→∃as,TyAs P n ts as∧RVs (Ku w) w as vs
 | [],[],[],ps,_,_,_,_=>⟨[],trivial,rfl,fun j hj=>by simp at hj⟩
 |t::ts,v::vs,d::ds,ps,hp,hval,h,hw=>by
  obtain⟨p,q,h1,h2,rfl⟩:=h;simp only[List.all_cons,Bool.and_eq_true]at hp;simp only[DataW.weightsEach,List.mem_append]at hw;obtain⟨a,ha,hr⟩:=Aet hp.1 (hval 0 t v rfl rfl) h1 (fun q hq=>hw q (.inl hq));obtain⟨as,has,hrs⟩:=open_args ts vs ds q hp.2 (fun j t v ht hv=>hval (j+1) t v (by simpa using ht) (by simpa using hv)) h2 (fun q hq=>hw q (.inr hq));exact⟨a::as,⟨ha,has⟩,(RVs.one1 hr).app hrs⟩
 | [],_::_,_,_,_,_,h,_=>h.elim
 | [],[],_::_,_,_,_,h,_=>h.elim
 |_::_,[],_,_,_,_,h,_=>h.elim
 |_::_,_::_,[],_,_,_,h,_=>h.elim
theorem shut_args{W':World}(hl:laidOutB P=true)(hb:Below w.heap.size w W'):∀(ts:List TypeId) (vs:List Value) (ds:List (DataW H)) (ps:List MemPlace),(ts.all fun t=>P.readableRec t&&decide (t<P.types.size))=true→
  DataW.TrodAll enc P w 0 (fun _=>true) true ts vs ds ps→DataW.TrodAll enc P W' 0 (fun b=>decide (b<w.heap.size)) true ts vs ds ps
 | [],[],[],ps,_,h=>h
 |t::ts,v::vs,d::ds,ps,hr,h=>by
  obtain⟨p,q,h1,h2,rfl⟩:=h;simp only[List.all_cons,Bool.and_eq_true,decide_eq_true_eq]at hr;refine⟨p,q,Below.trod hl hr.1.1 hr.1.2 h1 hb ?_,shut_args hl hb ts vs ds q hr.2 h2,rfl⟩;obtain⟨m,hm⟩:=h1;exact DataW.trod_lt m _ _ _ hm
 | [],_::_,_,_,_,h=>h.elim
 | [],[],_::_,_,_,h=>h.elim
 |_::_,[],_,_,_,h=>h.elim
 |_::_,_::_,[],_,_,h=>h.elim
theorem AT.law{f:FuncId}{as:List AV}{args:Array Value}(hb:Rq P f=false)(h:AT P f as (fun _=>none) fun r _=>r= .v (.bool true))(hr:RVs (Ku w) w as args.toList):Calls P f args w fun e w'=>e= .returned (.bool true)∧Below w.heap.size w w':=by
 replace h:=h.resolve_right (fun⟨h,_⟩=>by rw[hb]at h;cases h)
 have:=h.2 (Ku w) w args.toList (Ab1 w) hr;rw[Array.toArray_toList]at this;refine this.mono fun e w' ⟨x,F',σ',r,h1,h2,h3,h4,h5⟩=>?_;subst h5;refine⟨by rw[h1,h4.eq],h2.os,h2.tape,h2.output,h2.size,fun b hb=>(h2.old b hb rfl).1⟩
end
theorem Z9{P:Program}{f:FuncId}{fn:Func}{t:TypeId}{ag byt:Bool}{sz q q1 eby b p m c cap:Nat}{zr ez:List Value}{es es1:List (List AV)}{σ:St}
  (hf:P.funcs[f]? =some fn) (hbody:fn.body=none) (hname:(fn.name== "runtime.NumGoroutine")=false) (hnext:Extern.findNext fn=none) (hfind:Extern.find fn=some (Extern.SlicesOverlaps.overlaps fn.params fn.resultTypes))
  (hp0:fn.params[0]? =some t) (ht:tk P t=some ⟨ag,sz,zr,.sl q eby ez byt⟩) (hb:σ b=some (.rows q es false cap)) (hq:1<q) (hq1:0<q1) (hp:p≤cap*q):
  AT P f [.fsl q1 es1,.v (.slice (some ⟨b,p,none⟩) m c)] σ fun r σ'=>r= .v (.bool false)∧σ'=σ:=by
 refine .inr ⟨by unfold Rq;rw[hf];simp[hbody],.inr ⟨⟨fn,hf,hbody⟩,fun F w vs hs hv=>?_⟩⟩;obtain⟨X,Y,rfl⟩:∃X Y,vs=[X,Y]:=by
  match vs,hv.1 with
  | [X,Y],_=>exact⟨X,Y,rfl⟩
 have hX:=hv.2 0 (by simp);have hY:=hv.2 1 (by simp);simp only[List.getD_cons_zero,List.getD_cons_succ]at hX hY;have hYe:=hY.eq;subst hYe;obtain⟨inf,d,z,h1,h2,h3,h4,h5,h6,h7,h8⟩:=Bb ht;obtain⟨e,ie,ze,rfl,k1,rfl,rfl,k4,rfl,k6,k7⟩:=Hs (P:=P) (d:=d) h7.symm;have hrun:=run_callFunc_extern (P:=P) hf hname (by simp[hbody]) hnext hfind #[X,.slice (some ⟨b,p,none⟩) m c] w;obtain⟨cc,e',mm,g1,g2,g3,g4,g5,g6,g7⟩:=hs.obj b _ hb;have hps:p≤cc.size:=Nat.le_trans hp g2;have fb1:w.frozen? ⟨b,p,none⟩=false:=by
  have:=g5 p (by omega);simp only[World.frozen?,g1];simpa using this
 have fb2:w.frozen? ⟨b,cc.size,none⟩=false:=by
  have:=g5 cc.size (.inr ⟨hq,rfl⟩);simp only[World.frozen?,g1];simpa using this
 have sb:w.shape? b=some (e',cc.size):=by simp[World.shape?,g1]
 have done:∀ad la lc,X= .slice ad la lc→(Extern.SlicesOverlaps.overlaps fn.params fn.resultTypes #[X,.slice (some ⟨b,p,none⟩) m c]).run P w= .ok (.bool false) w→
   (∀x∈[X,Value.slice (some ⟨b,p,none⟩) m c],∃a n c,x= .slice a n c)∧∃x r,(callFunc f [X,Value.slice (some ⟨b,p,none⟩) m c].toArray).run P w= .ok (.value x) w∧RV F w r x∧r= .v (.bool false)∧σ=σ:=fun ad la lc hXs hr=>by
  refine⟨fun x hx=>?_,.bool false,.v (.bool false),?_,.v _,rfl,rfl⟩
  ·rcases List.mem_cons.1 hx with rfl|hx
   ·exact⟨_,_,_,hXs⟩
   ·rw[List.mem_singleton.1 hx];exact⟨_,_,_,rfl⟩
  ·rw[show([X,Value.slice (some ⟨b,p,none⟩) m c].toArray)= #[X,.slice (some ⟨b,p,none⟩) m c]from rfl,hrun,hr]
   rfl
 have goes:∀(ad:Option Addr) (la lc:Nat),(la=0∨m=0∨ie.size=0∨∃b1 o e1 c1,ad=some ⟨b1,o,none⟩∧b1≠b∧w.shape? b1=some (e1,c1)∧c1≠0)→(Extern.SlicesOverlaps.overlaps fn.params fn.resultTypes #[.slice ad la lc,.slice (some ⟨b,p,none⟩) m c]).run P w= .ok (.bool false) w:=fun ad la lc h=>by
  obtain⟨T,hT⟩:∃T,T=Extern.SlicesOverlaps.overlaps fn.params fn.resultTypes #[.slice ad la lc,.slice (some ⟨b,p,none⟩) m c]:=⟨_,rfl⟩;rw[←hT]
  conv at hT=>
   rhs
   whnf
  rw[hp0]at hT;rw[hT];by_cases hz:la=0∨m=0∨ie.size=0
  ·cases ad with
   |none=>simp[run_underlying h2,Ar k1]
   |some ad=>simp[run_underlying h2,Ar k1,hz]
  ·obtain⟨b1,o,e1,c1,rfl,hne,sa,hc0⟩:∃b1 o e1 c1,ad=some ⟨b1,o,none⟩∧b1≠b∧w.shape? b1=some (e1,c1)∧c1≠0:=by
    rcases h with h|h|h|h
    ·exact absurd (.inl h) hz
    ·exact absurd (.inr (.inl h)) hz
    ·exact absurd (.inr (.inr h)) hz
    ·exact h
   have hbn:(b1 !=b)=true:=by simp[hne]
   have hbe:(b1==b)=false:=by simp[hne]
   have hfz:∀(a:Addr) (w:World),Sem.run P (Sem.frozen a Sem.pure) w= .ok (w.frozen? a) w:=fun _ _=>rfl;have hsh:∀(r:Nat) (w:World),Sem.run P (Sem.shape r Sem.pure) w= .ok (w.shape? r) w:=fun _ _=>rfl
   cases hfa:w.frozen? ⟨b1,o,none⟩<;>cases hfa2:w.frozen? ⟨b1,c1,none⟩<;>
    simp[run_underlying h2,Ar k1,hz,hbn,hbe,frozen,hfz,hsh,hfa,hfa2,fb1,fb2,noView,viewAt,shape,sa,sb,mayBeOne,stringish,hc0,hne]
 cases hX with
 |fsl0 _ ad=>
  exact done _ _ _ rfl (goes _ _ _ (.inl rfl))
 |fsl _ _ b1 o cf n hn hk hF hc hr=>
  refine done _ _ _ rfl ?_;rcases Nat.eq_zero_or_pos n with hz|hn0
  ·exact goes _ _ _ (.inl hz)
  ·have hpos:0<es1.length*q1:=Nat.mul_pos (by omega) hq1
   have h0:=hc 0 hpos;have hne:b1≠b:=fun e=>by
    subst e;have:F b1=0:=g6;omega
   obtain⟨c1,e1,m1,s1,s2⟩:∃c1 e1 m1,w.heap[b1]? =some (.cells c1 e1 m1)∧0<c1.size:=by
    simp only[World.cell?]at h0;split at h0
    ·rename_i c1 e1 m1 hh
     refine⟨c1,e1,m1,hh,?_⟩;rcases Nat.eq_zero_or_pos c1.size with h|h
     ·simp[h,Array.getElem?_eq_none]at h0
     ·exact h
    ·cases h0
   exact goes _ _ _ (.inr (.inr (.inr ⟨b1,o,e1,c1.size,rfl,hne,by simp[World.shape?,s1],by omega⟩)))
def EAt(q:Nat)(σ:St)(p:AV)(cs:List AV)(g:Nat):Prop:=
 p= .fp (cs.drop g)∨∃b j es frz cap,p= .rp b q j g∧σ b=some (.rows q es frz cap)∧j<es.length∧es.getD j []=cs
section
variable{q:Nat}{σ σ':St}{p lv:AV}{es:List (List AV)}{cs:List AV}{g:Nat}{K:AV→Prop}
theorem LAt.elem{ag:Bool}{sz eby:Nat}{zr ez:List Value}{byt:Bool}{ik:IntKind}{j:Int}(h:LAt q σ lv es)(h0:0≤j)(h1:j<es.length)
  (hk:∀p,EAt q σ p (es.getD j.toNat []) 0→K p):Dy (some ⟨ag,sz,zr,.sl q eby ez byt⟩) σ lv (.v (.int ik j)) K:=by
 rcases h with⟨rfl,rfl⟩|rfl|⟨b,cap,rfl,hc,hb⟩
 ·simp at h1;omega
 ·exact⟨rfl,h0,h1,hk _ (.inl (by simp))⟩
 ·refine⟨by simp,h0,h1,hk _ (.inr ⟨b,_,es,false,cap,rfl,hb,?_,?_⟩)⟩
  ·simp only[Nat.zero_div,Nat.zero_add];omega
  ·simp only[Nat.zero_div,Nat.zero_add]
theorem EAt.load{sz:Nat}{zr:List Value}{td:TD}(h:EAt q σ p cs g)(hq:g+sz≤q)(hl:q≤cs.length)(hk:K (.agg ((cs.drop g).take sz))):B8 (some ⟨true,sz,zr,td⟩) σ p K:=by
 rcases h with rfl|⟨b,j,es,frz,cap,rfl,h1,h2,rfl⟩
 ·simp only[B8,if_true]
  exact⟨by simp;omega,hk⟩
 ·simp only[B8,h1,if_true]
  exact⟨trivial,h2,hq,hk⟩
theorem EAt.load1{sz:Nat}{zr:List Value}{td:TD}(h:EAt q σ p cs g)(hq:g<q)(hl:q≤cs.length)(hk:K (cs.getD g (.v undef))):B8 (some ⟨false,sz,zr,td⟩) σ p K:=by
 rcases h with rfl|⟨b,j,es,frz,cap,rfl,h1,h2,rfl⟩
 ·simp only[B8,Bool.false_eq_true,if_false]
  refine⟨by simp;omega,?_⟩;simpa[List.getD_eq_getElem?_getD]using hk
 ·simp only[B8,h1,Bool.false_eq_true,if_false]
  exact⟨trivial,h2,hq,hk⟩
noncomputable def St.free(σ:St)(lv:AV):St:=fun y=>open Classical in if Own lv y then none else σ y
theorem Vt{x:Nat}(h:Own lv x):St.free σ lv x=none:=by unfold St.free;rw[if_pos h]
theorem Zu{x:Nat}(h:¬Own lv x):St.free σ lv x=σ x:=by unfold St.free;rw[if_neg h]
end
section
variable{P:Program}{K:Fr→St→Prop}
theorem I5{ops:Array Oper}:∀(n m j p:Nat),n≤m→Br ops n j p=true→Br ops m j p=true
 |0,_,_,_,_,h=>by simp[Br]at h
 |n+1,0,_,_,h,_=>by omega
 |n+1,m+1,j,p,hn,h=>by
  simp only[Br]at h⊢;cases ho:ops[j]? with
  |none=>rw[ho]at h;cases h
  |some o=>
   rw[ho]at h;simp only[Array.any_eq_true,Bool.and_eq_true,Bool.or_eq_true]at h⊢;obtain⟨k,hk,h1,h2⟩:=h;exact⟨k,hk,h1,h2.imp _root_.id (I5 n m _ p (by omega))⟩
structure OT where
 nd:Nat
 lk:Nat
 ds:Nat
 cl:Nat
def orB:List Nat→Nat
 | []=>0
 |k::l=>orB l|||1<<<k
def Aeq(o:Oper):List Nat:=(o.after.toList.filter fun e=>Region.binds .any e).map Edge.on
def otOf(P:Program)(ops:Array Oper)(o:Oper):OT:=⟨orB (Aeq o),orB (o.looksAt ops),orB o.dst.toList,cls P o.op⟩
def OT.same(x y:OT):Bool:=Nat.beq x.nd y.nd&&Nat.beq x.lk y.lk&&Nat.beq x.ds y.ds&&Nat.beq x.cl y.cl
def Rz(P:Program)(ops:Array Oper):List Oper→List OT→Bool
 | [],[]=>true
 |o::l,t::T=>t.same (otOf P ops o)&&Rz P ops l T
 |_,_=>false
theorem Jp{a k:Nat}:(1<<<a).testBit k=decide (a=k):=by rw[Nat.one_shiftLeft,Nat.testBit_two_pow]
theorem Ev{k:Nat}:∀{l:List Nat},(orB l).testBit k=true↔k∈l
 | []=>by simp[orB]
 |a::l=>by
  simp only[orB,Nat.testBit_or,Bool.or_eq_true,Ev (l:=l),Jp,decide_eq_true_eq,List.mem_cons];exact⟨fun h=>h.elim .inr fun h=>.inl h.symm,fun h=>h.elim (fun h=>.inr h.symm) .inl⟩
theorem OT.same_eq{x y:OT}(h:x.same y=true):x=y:=by
 simp only[OT.same,Bool.and_eq_true]at h;obtain⟨⟨⟨h1,h2⟩,h3⟩,h4⟩:=h;cases x;cases y
 simp only at h1 h2 h3 h4;rw[Nat.eq_of_beq_eq_true h1,Nat.eq_of_beq_eq_true h2,Nat.eq_of_beq_eq_true h3,Nat.eq_of_beq_eq_true h4]
theorem Fs{ops:Array Oper}:∀{l:List Oper} {T:List OT},Rz P ops l T=true→T.length=l.length∧∀(k:Nat) (o:Oper),l[k]? =some o→T[k]? =some (otOf P ops o)
 | [],[],_=>⟨rfl,fun k o h=>by simp at h⟩
 | [],_::_,h=>by cases h
 |_::_,[],h=>by cases h
 |a::l,t::T,h=>by
  simp only[Rz,Bool.and_eq_true]at h;obtain⟨h1,h2⟩:=Fs h.2;refine⟨by simp[h1],fun k o hk=>?_⟩;cases k with
  |zero=>simp at hk;subst hk;simp[OT.same_eq h.1]
  |succ k=>simpa using h2 k o (by simpa using hk)
theorem Jw{o:Oper}{k:Nat}:k∈Aeq o↔∃e∈o.after,Region.binds .any e=true∧e.on=k:=by
 unfold Aeq;rw[List.mem_map];constructor
 ·rintro⟨e,he,rfl⟩
  rw[List.mem_filter]at he;exact⟨e,Array.mem_toList_iff.1 he.1,he.2,rfl⟩
 ·rintro⟨e,he,hb,rfl⟩
  exact⟨e,List.mem_filter.2 ⟨Array.mem_toList_iff.2 he,hb⟩,rfl⟩
theorem Y2{a b:Nat}:Nat.beq (a&&&b) a=true↔∀k,a.testBit k=true→b.testBit k=true:=by
 constructor
 ·intro h k hk
  have h:=Nat.eq_of_beq_eq_true h;rw[←h,Nat.testBit_and,Bool.and_eq_true]at hk;exact hk.2
 ·intro h
  have:a&&&b=a:=Nat.eq_of_testBit_eq fun k=>by
   rw[Nat.testBit_and];cases hk:a.testBit k with
   |false=>rfl
   |true=>rw[h k hk];rfl
  rw[this];exact Nat.beq_refl a
def Ait(A:List Nat)(nd m:Nat):Bool:=Nat.beq (m&&&(List.range A.length).foldl (fun x k=>match nd.testBit k with
 |true=>x|||(A.getD k 0|||1<<<k)
 |false=>x) 0) m
def Mu(A:List Nat):Nat→List OT→List Nat→Bool
 |_,[],_=>true
 |_,_::_,[]=>true
 |k,o::l,m::t=>Ait (A.take k) o.nd m&&Mu A (k+1) l t
theorem Z7{A:List Nat}{nd p:Nat}:∀(es:List Nat) (m0:Nat),(es.foldl (fun x k=>match nd.testBit k with
 |true=>x|||(A.getD k 0|||1<<<k)
 |false=>x) m0).testBit p=true→m0.testBit p=true∨∃k∈es,nd.testBit k=true∧(k=p∨(A.getD k 0).testBit p=true)
 | [],m0,h=>.inl h
 |e::es,m0,h=>by
  rw[List.foldl_cons]at h;rcases Z7 es _ h with h|⟨e',he,hb⟩
  ·cases hb:nd.testBit e with
   |false=>rw[hb]at h;exact .inl h
   |true=>
    rw[hb]at h;simp only[Nat.testBit_or,Bool.or_eq_true,Jp,decide_eq_true_eq]at h;rcases h with h|h|h
    ·exact .inl h
    ·exact .inr ⟨e,List.mem_cons_self ..,hb,.inr h⟩
    ·exact .inr ⟨e,List.mem_cons_self ..,hb,.inl h⟩
  ·exact .inr ⟨e',List.mem_cons_of_mem _ he,hb⟩
theorem Y1{A:List Nat}:∀{l:List OT} {t:List Nat} {k:Nat},Mu A k l t=true→∀j o m,l[j]? =some o→t[j]? =some m→Ait (A.take (k+j)) o.nd m=true
 | [],t,k,h,j,o,m,h1,h2=>by simp at h1
 |_::_,[],k,h,j,o,m,h1,h2=>by simp at h2
 |a::l,b::t,k,h,j,o,m,h1,h2=>by
  simp only[Mu,Bool.and_eq_true]at h;cases j with
  |zero=>
   simp at h1 h2;subst h1;subst h2;exact h.1
  |succ j=>
   have:=Y1 h.2 j o m (by simpa using h1) (by simpa using h2);rwa[show k+1+j=k+(j+1) by omega]at this
theorem Ql{l:List Oper}{T:List OT}{A:List Nat}(hT:Rz P l.toArray l T=true)(h:Mu A 0 T A=true):∀(n j p:Nat),j<n→j<l.length→(A.getD j 0).testBit p=true→Br l.toArray (j+1) j p=true
 |0,j,p,hn,_,_=>by omega
 |n+1,j,p,hn,hj,hb=>by
  have hA:j<A.length:=by
   rcases Nat.lt_or_ge j A.length with h'|h'
   ·exact h'
   ·rw[List.getD_eq_getElem?_getD,List.getElem?_eq_none h']at hb
    simp at hb
  have ho:l[j]? =some l[j]:=List.getElem?_eq_getElem hj;have hm:A[j]? =some A[j]:=List.getElem?_eq_getElem hA;have hk:=Y1 h j _ _ ((Fs hT).2 j _ ho) hm;rw[Nat.zero_add]at hk;rw[List.getD_eq_getElem?_getD,hm]at hb;have hb:A[j].testBit p=true:=hb;have hk:=Nat.eq_of_beq_eq_true hk;rw[←hk,Nat.testBit_and,Bool.and_eq_true]at hb;rcases Z7 _ _ hb.2 with h0|⟨e,he,hbi,hp⟩
  ·simp at h0
  ·obtain⟨ed,he1,he2,rfl⟩:=Jw.1 (Ev.1 hbi)
   have ho':l.toArray[j]? =some l[j]:=by rw[List.getElem?_toArray];exact ho
   simp only[Br,ho',Array.any_eq_true',Bool.and_eq_true,Bool.or_eq_true,beq_iff_eq];refine⟨ed,he1,he2,hp.imp _root_.id fun hp=>?_⟩;rw[List.mem_range,List.length_take]at he;rw[List.getD_eq_getElem?_getD]at hp;have h3:(A.take j)[ed.on]? =A[ed.on]? :=by rw[List.getElem?_take,if_pos (by omega)]
   rw[h3,←List.getD_eq_getElem?_getD]at hp;exact I5 _ _ _ _ (by omega) (Ql hT h n ed.on p (by omega) (by omega) hp)
def V6(m i:Nat):Nat→List OT→Bool
 |_,[]=>true
 |k,t::T=>(Nat.beq k i||m.testBit k||!Nat.beq (t.nd&&&m) t.nd)&&V6 m i (k+1) T
def allT(m:Nat):Nat→List OT→Bool
 |_,[]=>true
 |k,_::T=>m.testBit k&&allT m (k+1) T
def Sr(x y:OT):Bool:=Nat.beq (x.ds&&&(y.lk|||y.ds)) 0&&Nat.beq (y.ds&&&x.lk) 0
def Vs(m i:Nat)(x:OT):Nat→List OT→Bool
 |_,[]=>true
 |k,t::T=>(Nat.beq k i||m.testBit k||t.nd.testBit i||Sr x t)&&Vs m i x (k+1) T
def R2(T:List OT)(A:List Nat):List PS→Nat→List Nat→Bool
 | [],m,_=>allT m 0 T
 | .rd i keep::r,m,N=>match T[i]? with
  |none=>false
  |some t=>!m.testBit i&&Nat.beq (t.nd&&&m) t.nd&&(Nat.beq t.cl 0||(Nat.beq t.cl 1&&keep))&&Vs m i t 0 T&&R2 T A r (m|||1<<<i) (if keep then i::N else N)
 | .ef i chk::r,m,N=>match T[i]? with
  |none=>false
  |some t=>!m.testBit i&&Nat.beq (t.nd&&&m) t.nd&&Nat.beq t.cl 2&&V6 m i 0 T&&(N.all fun p=>(A.getD i 0).testBit p||chk.contains p)&&R2 T A r (m|||1<<<i) N
theorem Ry{m i:Nat}:∀{T:List OT} {k:Nat},V6 m i k T=true→∀j t,T[j]? =some t→k+j=i∨m.testBit (k+j)=true∨Nat.beq (t.nd&&&m) t.nd=false
 | [],k,h,j,t,hj=>by simp at hj
 |a::T,k,h,j,t,hj=>by
  simp only[V6,Bool.and_eq_true,Bool.or_eq_true,Bool.not_eq_true']at h;cases j with
  |zero=>
   simp at hj;subst hj;rcases h.1 with(h|h)|h
   ·exact .inl (Nat.eq_of_beq_eq_true h)
   ·exact .inr (.inl h)
   ·exact .inr (.inr h)
  |succ j=>
   have:=Ry h.2 j t (by simpa using hj);rwa[show k+1+j=k+(j+1) by omega]at this
theorem Uo{m:Nat}:∀{T:List OT} {k:Nat},allT m k T=true→∀j,j<T.length→m.testBit (k+j)=true
 | [],k,h,j,hj=>by simp at hj
 |a::T,k,h,j,hj=>by
  simp only[allT,Bool.and_eq_true]at h;cases j with
  |zero=>exact h.1
  |succ j=>
   have:=Uo h.2 j (by simpa using hj);rwa[show k+1+j=k+(j+1) by omega]at this
theorem Rn{m i:Nat}{x:OT}:∀{T:List OT} {k:Nat},Vs m i x k T=true→∀j t,T[j]? =some t→k+j=i∨m.testBit (k+j)=true∨t.nd.testBit i=true∨Sr x t=true
 | [],k,h,j,t,hj=>by simp at hj
 |a::T,k,h,j,t,hj=>by
  simp only[Vs,Bool.and_eq_true,Bool.or_eq_true]at h;cases j with
  |zero=>
   simp at hj;subst hj;rcases h.1 with((h|h)|h)|h
   ·exact .inl (Nat.eq_of_beq_eq_true h)
   ·exact .inr (.inl h)
   ·exact .inr (.inr (.inl h))
   ·exact .inr (.inr (.inr h))
  |succ j=>
   have:=Rn h.2 j t (by simpa using hj);rwa[show k+1+j=k+(j+1) by omega]at this
theorem Up{a b k:Nat}(h:Nat.beq (a&&&b) 0=true)(ha:a.testBit k=true):b.testBit k=false:=by
 have h:=Nat.eq_of_beq_eq_true h;have:=congrArg (fun x=>x.testBit k) h;simp only[Nat.testBit_and,ha,Bool.true_and,Nat.zero_testBit]at this;exact this
theorem Aa4{ops:Array Oper}{x y:Oper}(h:Sr (otOf P ops x) (otOf P ops y)=true):x.apart ops y=true:=by
 simp only[Sr,otOf,Bool.and_eq_true]at h;obtain⟨h1,h2⟩:=h;unfold Oper.apart;rw[Bool.and_eq_true];constructor
 ·cases hx:x.dst with
  |none=>rfl
  |some d=>
   have hb:(orB x.dst.toList).testBit d=true:=Ev.2 (by rw[hx];simp);have:=Up h1 hb;rw[Nat.testBit_or,Bool.or_eq_false_iff]at this;simp only[Bool.and_eq_true,Bool.not_eq_true',bne_iff_ne,ne_eq];refine⟨?_,fun e=>?_⟩
   ·cases hc:(y.looksAt ops).contains d with
    |false=>rfl
    |true=>
     have:=this.1;rw[Ev.2 (by simpa using hc)]at this;cases this
   ·have:=this.2
    rw[Ev.2 (by rw[e];simp)]at this;cases this
 ·cases hy:y.dst with
  |none=>rfl
  |some d=>
   have hb:(orB y.dst.toList).testBit d=true:=Ev.2 (by rw[hy];simp);have:=Up h2 hb;simp only[Bool.not_eq_true'];cases hc:(x.looksAt ops).contains d with
   |false=>rfl
   |true=>
    rw[Ev.2 (by simpa using hc)]at this;cases this
structure Msk(n m:Nat)(L:Array Bool):Prop where
 size:L.size=n
 bit:∀k,k<n→L.getD k false=m.testBit k
 lt:∀k,m.testBit k=true→k<n
theorem Msk.bitT{n m:Nat}{L:Array Bool}(h:Msk n m L){k:Nat}(hk:k<n):L.getD k true=m.testBit k:=by
 rw[←h.bit k hk];have:=h.size;simp only[Array.getD_eq_getD_getElem?];rw[Array.getElem?_eq_getElem (by omega)];rfl
theorem Msk.set{n m i:Nat}{L:Array Bool}(h:Msk n m L)(hi:i<n):Msk n (m|||1<<<i) (L.setIfInBounds i true):=by
 refine⟨by rw[Array.size_setIfInBounds,h.size],fun k hk=>?_,fun k hk=>?_⟩
 case refine_2=>
  rw[Nat.testBit_or,Jp,Bool.or_eq_true,decide_eq_true_eq]at hk;rcases hk with hk|hk
  ·exact h.lt k hk
  ·omega
 rw[Nat.testBit_or,Jp];by_cases e:i=k
 ·subst e
  have:=h.size;simp[Array.getElem?_setIfInBounds,show i<L.size by omega]
 ·rw[getD_set_ne false e,h.bit k hk,decide_eq_false e,Bool.or_false]
section
variable{l:List Oper}{T:List OT}(hT:Rz P l.toArray l T=true)
include hT
theorem Ae2{m i:Nat}{L:Array Bool}{t:OT}(hm:Msk l.length m L)(ht:T[i]? =some t)(h1:m.testBit i=false)(h2:Nat.beq (t.nd&&&m) t.nd=true):i∈Region.ready .any l.toArray L:=by
 obtain⟨hl,hg⟩:=Fs hT;have hi:i<l.length:=by
  rw[←hl];exact(List.getElem?_eq_some_iff.1 ht).1
 have ho:l[i]? =some l[i]:=List.getElem?_eq_getElem hi;have:=hg i _ ho;rw[ht]at this;injection this with this;rw[mem_ready];refine⟨by rw[hm.bitT hi];exact h1,l[i],by rw[List.getElem?_toArray];exact ho,fun e he hb=>?_⟩;have hn:t.nd.testBit e.on=true:=by rw[this];exact Ev.2 (Jw.2 ⟨e,he,hb,rfl⟩)
 have hb:=Y2.1 h2 _ hn;rw[hm.bit _ (hm.lt _ hb)];exact hb
theorem Aaf{m i:Nat}{L:Array Bool}{t:OT}(hm:Msk l.length m L)(ht:T[i]? =some t)(h:i∈Region.ready .any l.toArray L):m.testBit i=false∧Nat.beq (t.nd&&&m) t.nd=true:=by
 obtain⟨hl,hg⟩:=Fs hT;have hi:i<l.length:=by
  rw[←hl];exact(List.getElem?_eq_some_iff.1 ht).1
 rw[mem_ready]at h;obtain⟨h0,o,ho,hall⟩:=h;rw[List.getElem?_toArray]at ho;have:=hg i _ ho;rw[ht]at this;injection this with this;refine⟨by rw[←hm.bitT hi];exact h0,Y2.2 fun k hk=>?_⟩;rw[this]at hk;obtain⟨e,he,hb,rfl⟩:=Jw.1 (Ev.1 hk);have:=hall e he hb;rcases Nat.lt_or_ge e.on l.length with h'|h'
 ·rw[←hm.bit _ h'];exact this
 ·have hs:=hm.size
  rw[Array.getD_eq_getD_getElem?,Array.getElem?_eq_none (by omega)]at this;cases this
theorem Ah3{m i:Nat}{L:Array Bool}{t:OT}(hm:Msk l.length m L)(ht:T[i]? =some t)(h1:m.testBit i=false)(h2:Nat.beq (t.nd&&&m) t.nd=true)(h3:V6 m i 0 T=true):Region.ready .any l.toArray L=[i]:=by
 have hi:=Ae2 hT hm ht h1 h2;have hall:∀k∈Region.ready .any l.toArray L,k=i:=fun k hk=>by
  obtain⟨hl,hg⟩:=Fs hT;obtain⟨_,o,ho,_⟩:=mem_ready.1 hk;rw[List.getElem?_toArray]at ho;have hko:=hg k o ho;obtain⟨a1,a2⟩:=Aaf hT hm hko hk;rcases Ry h3 k _ hko with h|h|h
  ·omega
  ·rw[Nat.zero_add,a1]at h;cases h
  ·rw[a2]at h;cases h
 have hnd:(Region.ready .any l.toArray L).Nodup:=by
  unfold Region.ready;exact List.Pairwise.filter _ List.nodup_range
 revert hi hall hnd;generalize Region.ready .any l.toArray L=R;intro hi hall hnd
 match R,hi,hall,hnd with
 | [a],hi,_,_=>rw[List.mem_singleton.1 hi]
 |a::b::R,_,hall,hnd=>
  have h1:=hall a (by simp);have h2:=hall b (by simp);rw[h1,h2]at hnd;simp at hnd
theorem Aho{m i:Nat}{L:Array Bool}{t:OT}(hm:Msk l.length m L)(ht:T[i]? =some t)(h:Vs m i t 0 T=true):Region.free .any l.toArray L i=true:=by
 obtain⟨hl,hg⟩:=Fs hT;have hi:i<l.length:=by
  rw[←hl];exact(List.getElem?_eq_some_iff.1 ht).1
 have ho:l[i]? =some l[i]:=List.getElem?_eq_getElem hi;have e:=hg i _ ho;rw[ht]at e;injection e with e;unfold Region.free;rw[List.getElem?_toArray,ho];simp only[List.all_eq_true,List.mem_range,List.size_toArray];intro j hj;have hoj:l[j]? =some l[j]:=List.getElem?_eq_getElem hj;have hj2:=hg j _ hoj;rw[List.getElem?_toArray,hoj];simp only[Bool.or_eq_true,beq_iff_eq];rcases Rn h j _ hj2 with h|h|h|h
 ·exact .inl (.inl (by omega))
 ·exact .inl (.inr (by rw[hm.bitT hj];rwa[Nat.zero_add]at h))
 ·obtain⟨ed,he,hb,h⟩:=Jw.1 (Ev.1 h)
  refine .inr (.inl ?_);rw[Array.any_eq_true'];exact⟨ed,he,by rw[hb,h];simp⟩
 ·rw[e]at h
  exact .inr (.inr (Aa4 h))
theorem P7{A:List Nat}(hA:Mu A 0 T A=true):∀(pl:List PS) (m:Nat) (L:Array Bool) (N:List Nat),Msk l.length m L→R2 T A pl m N=true→C0 P l.toArray pl L N=true
 | [],m,L,N,hm,h=>by
  obtain⟨hl,hg⟩:=Fs hT;show(Region.ready .any l.toArray L).isEmpty=true;rw[List.isEmpty_iff];refine List.eq_nil_iff_forall_not_mem.2 fun k hk=>?_;obtain⟨_,o,ho,_⟩:=mem_ready.1 hk;rw[List.getElem?_toArray]at ho;have hko:=hg k o ho;obtain⟨a1,_⟩:=Aaf hT hm hko hk;have:=Uo h k (by rw[hl];exact(List.getElem?_eq_some_iff.1 ho).1);rw[Nat.zero_add,a1]at this;cases this
 | .rd i keep::r,m,L,N,hm,h=>by
  obtain⟨hl,hg⟩:=Fs hT;unfold R2 at h;split at h
  ·cases h
  rename_i t ht;simp only[Bool.and_eq_true,Bool.or_eq_true,Bool.not_eq_true']at h;obtain⟨⟨⟨⟨h1,h2⟩,h3⟩,h4⟩,h5⟩:=h;have hi:i<l.length:=by rw[←hl];exact(List.getElem?_eq_some_iff.1 ht).1
  have ho:l[i]? =some l[i]:=List.getElem?_eq_getElem hi;have e:=hg i _ ho;rw[ht]at e;injection e with e;have hc:Dl P l.toArray i=t.cl:=by unfold Dl;rw[List.getElem?_toArray,ho,e];rfl
  simp only[C0,Bool.and_eq_true,Bool.or_eq_true,beq_iff_eq];refine⟨⟨⟨by simpa using Ae2 hT hm ht h1 h2,?_⟩,Aho hT hm ht h4⟩,P7 hA r _ _ _ (hm.set hi) h5⟩;rw[hc];exact h3.imp Nat.eq_of_beq_eq_true fun h=>⟨Nat.eq_of_beq_eq_true h.1,h.2⟩
 | .ef i chk::r,m,L,N,hm,h=>by
  obtain⟨hl,hg⟩:=Fs hT;unfold R2 at h;split at h
  ·cases h
  rename_i t ht;simp only[Bool.and_eq_true,Bool.not_eq_true']at h;obtain⟨⟨⟨⟨⟨h1,h2⟩,h3⟩,h4⟩,h6⟩,h5⟩:=h;have hi:i<l.length:=by rw[←hl];exact(List.getElem?_eq_some_iff.1 ht).1
  have ho:l[i]? =some l[i]:=List.getElem?_eq_getElem hi;have e:=hg i _ ho;rw[ht]at e;injection e with e;have hc:Dl P l.toArray i=t.cl:=by unfold Dl;rw[List.getElem?_toArray,ho,e];rfl
  simp only[C0,Bool.and_eq_true,beq_iff_eq];refine⟨⟨⟨Ah3 hT hm ht h1 h2 h4,by rw[hc];exact Nat.eq_of_beq_eq_true h3⟩,List.all_eq_true.2 fun p hp=>?_⟩,P7 hA r _ _ _ (hm.set hi) h5⟩;have h1:=List.all_eq_true.1 h6 p hp;rw[Bool.or_eq_true]at h1⊢;refine h1.imp (fun hb=>?_) _root_.id;exact I5 _ _ _ _ (by rw[List.size_toArray];omega) (Ql hT hA (i+1) i p (Nat.lt_succ_self i) hi hb)
end
theorem Uj{l:List Oper}{fr:Fr}{σ:St}(T:List OT)(A:List Nat)(pl:List PS)(hm:P.follows .mixedOrders=true)(hlen:Nat.beq pl.length l.length=true)(hT:Rz P l.toArray l T=true)(hA:Mu A 0 T A=true)(hok:R2 T A pl 0 []=true)
  (h:Bo P (l.map (·.dst)) l K pl (@hid _ ⟨[]⟩) fr σ):Ol P l.toArray K fr σ:=
 Kl pl hm (by rw[beq_iff_eq];exact Nat.eq_of_beq_eq_true hlen) (P7 hT hA pl 0 _ _ ⟨by rw[Array.size_replicate],fun k hk=>by simp[Array.getElem?_replicate,hk],fun k hk=>by simp at hk⟩ hok) h
end
inductive Tr(α:Type) where
 |e
 |l (a:α)
 |n (x y:Tr α)
def Tr.get{α:Type}:Nat→Tr α→Nat→Option α
 |0,t,_=>match t with
  | .l a=>some a
  |_=>none
 |d+1,t,i=>match t with
  | .n x y=>match Nat.beq (i % 2) 0 with
   |true=>x.get d (i/2)
   |false=>y.get d (i/2)
  |_=>none
def Tr.kids{α:Type}:Tr α→Tr α×Tr α
 | .n x y=>(x,y)
 |_=>(.e,.e)
def Tr.set{α:Type}:Nat→Tr α→Nat→α→Tr α
 |0,_,_,a=>.l a
 |d+1,t,i,a=>match t.kids with
  |(x,y)=>match Nat.beq (i % 2) 0 with
   |true=>.n (x.set d (i/2) a) y
   |false=>.n x (y.set d (i/2) a)
theorem Tr.get_kids{α:Type}{d:Nat}{t:Tr α}{i:Nat}:t.get (d+1) i=match Nat.beq (i % 2) 0 with|true=>t.kids.1.get d (i/2)|false=>t.kids.2.get d (i/2):=by
 have he:∀d i,(Tr.e:Tr α).get d i=none:=fun d i=>by cases d<;>rfl
 cases t with
 |n x y=>simp only[Tr.get,Tr.kids]
 |_=>simp only[Tr.get,Tr.kids,he];split<;>rfl
theorem Tr.get_set{α:Type}:∀(d:Nat) (t:Tr α) (i j:Nat) (a:α),i<2^d→j<2^d→(t.set d i a).get d j=if j=i then some a else t.get d j
 |0,t,i,j,a,hi,hj=>by
  have:j=i:=by simp at hi hj;omega
  rw[if_pos this];rfl
 |d+1,t,i,j,a,hi,hj=>by
  have hi2:i/2<2^d:=by rw[Nat.pow_succ]at hi;omega
  have hj2:j/2<2^d:=by rw[Nat.pow_succ]at hj;omega
  have e:∀x:Nat,Nat.beq (x % 2) 0=decide (x % 2=0):=fun x=>by
   cases h:Nat.beq (x % 2) 0 with
   |true=>exact(decide_eq_true (Nat.eq_of_beq_eq_true h)).symm
   |false=>exact(decide_eq_false (Nat.ne_of_beq_eq_false h)).symm
  rw[Tr.get_kids (t:=t)];simp only[Tr.set];generalize hk:t.kids=p;obtain⟨x,y⟩:=p;simp only[e];by_cases h1:i % 2=0<;>by_cases h2:j % 2=0
  ·rw[decide_eq_true h1,decide_eq_true h2]
   simp only[Tr.get,e,decide_eq_true h2];rw[Tr.get_set d x _ _ a hi2 hj2];have:(j/2=i/2)↔j=i:=by omega
   simp only[this]
  ·rw[decide_eq_true h1,decide_eq_false h2]
   simp only[Tr.get,e,decide_eq_false h2];rw[if_neg (by omega)]
  ·rw[decide_eq_false h1,decide_eq_true h2]
   simp only[Tr.get,e,decide_eq_true h2];rw[if_neg (by omega)]
  ·rw[decide_eq_false h1,decide_eq_false h2]
   simp only[Tr.get,e,decide_eq_false h2];rw[Tr.get_set d y _ _ a hi2 hj2];have:(j/2=i/2)↔j=i:=by omega
   simp only[this]
def Tr.All{α:Type}:Nat→Tr α→(Nat→α→Prop)→Prop
 |0,t,p=>match t with
  | .l a=>p 0 a
  |_=>True
 |d+1,t,p=>match t with
  | .n x y=>x.All d (fun i a=>p (2*i) a)∧y.All d (fun i a=>p (2*i+1) a)
  |_=>True
theorem Tr.all_get{α:Type}:∀{d:Nat} {t:Tr α} {p:Nat→α→Prop} {i:Nat} {a:α},t.All d p→i<2^d→t.get d i=some a→p i a
 |0,t,p,i,a,h,hi,hg=>by
  have:i=0:=by simpa using hi
  subst this;cases t with
  |l b=>simp only[Tr.get,Option.some.injEq]at hg;subst hg;exact h
  |_=>cases hg
 |d+1,t,p,i,a,h,hi,hg=>by
  have hi2:i/2<2^d:=by rw[Nat.pow_succ]at hi;omega
  cases t with
  |n x y=>
   simp only[Tr.get]at hg;split at hg
   ·rename_i hb
    have hb:=Nat.eq_of_beq_eq_true hb;have:=Tr.all_get h.1 hi2 hg;rwa[show 2*(i/2)=i by omega]at this
   ·rename_i hb
    have hb:=Nat.ne_of_beq_eq_false hb;have:=Tr.all_get h.2 hi2 hg;rwa[show 2*(i/2)+1=i by omega]at this
  |_=>cases hg
inductive RS where
 |v (x:Value)
 |opq (i:Nat)
 |ptr (i o:Nat)
 |rp (i k j f:Nat)
 |row (i n:Nat)
 |part (i q l n:Nat)
 |mt (i:Nat) (p c:Nat→Nat)
 |sl (k:Nat) (es:List (List RS))
 |fsl (k:Nat) (es:List (List RS))
 |fp (cs:List RS)
 |agg (cs:List RS)
 |tup (cs:List RS)
 |fn (f:Nat) (fi ca:List RS)
 |yld (l:Nat)
 |ifc (t:TypeId) (x:RS)
 |mp (i:Nat)
structure Cx where
 r:Nat→Nat
 k:Nat→Nat
 a:Nat→AV
mutual
def RS.vv(c:Cx):RS→Value
 | .v x=>x
 | .ptr i o=>.pointer (some ⟨c.r i,o,none⟩)
 | .row i n=>.slice (some ⟨c.r i,0,none⟩) n (c.k i)
 | .part i q l n=>.slice (some ⟨c.r i,l*q,none⟩) n (c.k i-l)
 | .mt i p q=>.slice (some ⟨c.r i,p (c.k i),none⟩) 0 (q (c.k i))
 | .fn f fi ca=>.func (.func f) (RS.vvs c fi).toArray (RS.vvs c ca).toArray
 | .yld l=>.func (.yield (c.r l)) #[] #[]
 | .ifc t x=>.iface t (x.vv c)
 | .mp i=>.map (some (c.r i))
 |_=>undef
def RS.vvs(c:Cx):List RS→List Value
 | []=>[]
 |x::l=>x.vv c::RS.vvs c l
end
mutual
def RS.iv(c:Cx):RS→AV
 | .opq i=>c.a i
 | .rp i k j f=>.rp (c.r i) k j f
 | .sl k es=>.sl k (RS.ivss c es)
 | .fsl k es=>.fsl k (RS.ivss c es)
 | .fp cs=>.fp (RS.ivs c cs)
 | .agg cs=>.agg (RS.ivs c cs)
 | .tup cs=>.tup (RS.ivs c cs)
 |x=>.v (x.vv c)
def RS.ivs(c:Cx):List RS→List AV
 | []=>[]
 |x::l=>x.iv c::RS.ivs c l
def RS.ivss(c:Cx):List (List RS)→List (List AV)
 | []=>[]
 |x::l=>RS.ivs c x::RS.ivss c l
end
theorem Ce(c:Cx):∀l:List RS,RS.ivs c l=l.map (RS.iv c)
 | []=>rfl
 |x::l=>by simp only[RS.ivs,Ce c l,List.map_cons]
theorem Bs(c:Cx):∀l:List (List RS),RS.ivss c l=l.map (RS.ivs c)
 | []=>rfl
 |x::l=>by simp only[RS.ivss,Bs c l,List.map_cons]
theorem Ue(c:Cx):∀l:List RS,RS.vvs c l=l.map (RS.vv c)
 | []=>rfl
 |x::l=>by simp only[RS.vvs,Ue c l,List.map_cons]
def RS.isV:RS→Bool
 | .opq _| .rp .. | .sl .. | .fsl .. | .fp _| .agg _| .tup _=>false
 |_=>true
theorem Gj{c:Cx}{x:RS}(h:x.isV=true):x.iv c= .v (x.vv c):=by cases x<;>first|(cases h;done)|simp only[RS.iv]
mutual
def RS.wf(n:Nat):RS→Prop
 | .v _=>True
 | .opq _=>True
 | .ptr i _=>i<n
 | .rp i _ _ _=>i<n
 | .row i _=>i<n
 | .part i _ _ _=>i<n
 | .mt i _ _=>i<n
 | .sl _ es=>RS.wfss n es
 | .fsl _ es=>RS.wfss n es
 | .fp cs=>RS.wfs n cs
 | .agg cs=>RS.wfs n cs
 | .tup cs=>RS.wfs n cs
 | .fn _ fi ca=>RS.wfs n fi∧RS.wfs n ca
 | .yld l=>l<n
 | .ifc _ x=>x.wf n
 | .mp i=>i<n
def RS.wfs(n:Nat):List RS→Prop
 | []=>True
 |x::l=>x.wf n∧RS.wfs n l
def RS.wfss(n:Nat):List (List RS)→Prop
 | []=>True
 |x::l=>RS.wfs n x∧RS.wfss n l
end
theorem Ex{n:Nat}:∀{l:List RS},RS.wfs n l↔∀x∈l,x.wf n
 | []=>by simp[RS.wfs]
 |x::l=>by simp[RS.wfs,Ex (l:=l)]
theorem Cb{n:Nat}:∀{l:List (List RS)},RS.wfss n l↔∀x∈l,RS.wfs n x
 | []=>by simp[RS.wfss]
 |x::l=>by simp[RS.wfss,Cb (l:=l)]
structure Dw(n:Nat)(c c':Cx):Prop where
 r:∀i,i<n→c'.r i=c.r i
 k:∀i,i<n→c'.k i=c.k i
 a:c'.a=c.a
theorem Dw.refl(n:Nat)(c:Cx):Dw n c c:=⟨fun _ _=>rfl,fun _ _=>rfl,rfl⟩
theorem Dw.trans{n m:Nat}{c c' c'':Cx}(h:Dw n c c')(h':Dw m c' c'')(hn:n≤m):Dw n c c'':=
 ⟨fun i hi=>(h'.r i (by omega)).trans (h.r i hi),fun i hi=>(h'.k i (by omega)).trans (h.k i hi),h'.a.trans h.a⟩
section
variable{n:Nat}{c c':Cx}
mutual
theorem C9(h:Dw n c c'):∀(x:RS),x.wf n→x.vv c'=x.vv c
 | .v _,_=>by simp only[RS.vv]
 | .opq _,_=>by simp only[RS.vv]
 | .ptr i _,hw=>by simp only[RS.wf]at hw;simp only[RS.vv,h.r i hw]
 | .rp i _ _ _,_=>by simp only[RS.vv]
 | .row i _,hw=>by simp only[RS.wf]at hw;simp only[RS.vv,h.r i hw,h.k i hw]
 | .part i _ _ _,hw=>by simp only[RS.wf]at hw;simp only[RS.vv,h.r i hw,h.k i hw]
 | .mt i _ _,hw=>by simp only[RS.wf]at hw;simp only[RS.vv,h.r i hw,h.k i hw]
 | .sl _ _,_=>by simp only[RS.vv]
 | .fsl _ _,_=>by simp only[RS.vv]
 | .fp _,_=>by simp only[RS.vv]
 | .agg _,_=>by simp only[RS.vv]
 | .tup _,_=>by simp only[RS.vv]
 | .fn _ fi ca,hw=>by simp only[RS.wf]at hw;simp only[RS.vv,Nj h fi hw.1,Nj h ca hw.2]
 | .yld l,hw=>by simp only[RS.wf]at hw;simp only[RS.vv,h.r l hw]
 | .ifc _ x,hw=>by simp only[RS.wf]at hw;simp only[RS.vv,C9 h x hw]
 | .mp i,hw=>by simp only[RS.wf]at hw;simp only[RS.vv,h.r i hw]
theorem Nj(h:Dw n c c'):∀(l:List RS),RS.wfs n l→RS.vvs c' l=RS.vvs c l
 | [],_=>by simp only[RS.vvs]
 |x::l,hw=>by simp only[RS.wfs]at hw;simp only[RS.vvs,C9 h x hw.1,Nj h l hw.2]
end
mutual
theorem I8(h:Dw n c c'):∀(x:RS),x.wf n→x.iv c'=x.iv c
 | .opq _,_=>by simp only[RS.iv,h.a]
 | .rp i _ _ _,hw=>by simp only[RS.wf]at hw;simp only[RS.iv,h.r i hw]
 | .sl _ es,hw=>by simp only[RS.wf]at hw;simp only[RS.iv,Gk h es hw]
 | .fsl _ es,hw=>by simp only[RS.wf]at hw;simp only[RS.iv,Gk h es hw]
 | .fp cs,hw=>by simp only[RS.wf]at hw;simp only[RS.iv,D2 h cs hw]
 | .agg cs,hw=>by simp only[RS.wf]at hw;simp only[RS.iv,D2 h cs hw]
 | .tup cs,hw=>by simp only[RS.wf]at hw;simp only[RS.iv,D2 h cs hw]
 | .v x,hw=>by rw[Gj rfl,Gj rfl,C9 h _ hw]
 | .ptr i o,hw=>by rw[Gj rfl,Gj rfl,C9 h _ hw]
 | .row i o,hw=>by rw[Gj rfl,Gj rfl,C9 h _ hw]
 | .part i o _ _,hw=>by rw[Gj rfl,Gj rfl,C9 h _ hw]
 | .mt i o _,hw=>by rw[Gj rfl,Gj rfl,C9 h _ hw]
 | .fn i o _,hw=>by rw[Gj rfl,Gj rfl,C9 h _ hw]
 | .yld i,hw=>by rw[Gj rfl,Gj rfl,C9 h _ hw]
 | .ifc i o,hw=>by rw[Gj rfl,Gj rfl,C9 h _ hw]
 | .mp i,hw=>by rw[Gj rfl,Gj rfl,C9 h _ hw]
theorem D2(h:Dw n c c'):∀(l:List RS),RS.wfs n l→RS.ivs c' l=RS.ivs c l
 | [],_=>by simp only[RS.ivs]
 |x::l,hw=>by simp only[RS.wfs]at hw;simp only[RS.ivs,I8 h x hw.1,D2 h l hw.2]
theorem Gk(h:Dw n c c'):∀(l:List (List RS)),RS.wfss n l→RS.ivss c' l=RS.ivss c l
 | [],_=>by simp only[RS.ivss]
 |x::l,hw=>by simp only[RS.wfss]at hw;simp only[RS.ivss,D2 h x hw.1,Gk h l hw.2]
end
end
mutual
theorem G9{n m:Nat}(h:n≤m):∀(x:RS),x.wf n→x.wf m
 | .v _,_=>by simp only[RS.wf]
 | .opq _,_=>by simp only[RS.wf]
 | .ptr i _,hw=>by simp only[RS.wf]at hw⊢;omega
 | .rp i _ _ _,hw=>by simp only[RS.wf]at hw⊢;omega
 | .row i _,hw=>by simp only[RS.wf]at hw⊢;omega
 | .part i _ _ _,hw=>by simp only[RS.wf]at hw⊢;omega
 | .mt i _ _,hw=>by simp only[RS.wf]at hw⊢;omega
 | .sl _ es,hw=>by simp only[RS.wf]at hw⊢;exact J7 h es hw
 | .fsl _ es,hw=>by simp only[RS.wf]at hw⊢;exact J7 h es hw
 | .fp cs,hw=>by simp only[RS.wf]at hw⊢;exact Dq h cs hw
 | .agg cs,hw=>by simp only[RS.wf]at hw⊢;exact Dq h cs hw
 | .tup cs,hw=>by simp only[RS.wf]at hw⊢;exact Dq h cs hw
 | .fn _ fi ca,hw=>by simp only[RS.wf]at hw⊢;exact⟨Dq h fi hw.1,Dq h ca hw.2⟩
 | .yld l,hw=>by simp only[RS.wf]at hw⊢;omega
 | .ifc _ x,hw=>by simp only[RS.wf]at hw⊢;exact G9 h x hw
 | .mp i,hw=>by simp only[RS.wf]at hw⊢;omega
theorem Dq{n m:Nat}(h:n≤m):∀(l:List RS),RS.wfs n l→RS.wfs m l
 | [],_=>by simp only[RS.wfs]
 |x::l,hw=>by simp only[RS.wfs]at hw⊢;exact⟨G9 h x hw.1,Dq h l hw.2⟩
theorem J7{n m:Nat}(h:n≤m):∀(l:List (List RS)),RS.wfss n l→RS.wfss m l
 | [],_=>by simp only[RS.wfss]
 |x::l,hw=>by simp only[RS.wfss]at hw⊢;exact⟨Dq h x hw.1,J7 h l hw.2⟩
end
def gd{α:Type}:Bool→Option α→Option α
 |true,x=>x
 |false,_=>none
theorem Ah{α:Type}{b:Bool}{x:Option α}{y:α}:gd b x=some y↔b=true∧x=some y:=by cases b<;>simp[gd]
theorem Bf{a b:Nat}:Nat.ble a b=true↔a≤b:=⟨Nat.le_of_ble_eq_true,Nat.ble_eq_true_of_le⟩
theorem Aq{a b:Nat}:Nat.beq a b=true↔a=b:=⟨Nat.eq_of_beq_eq_true,fun h=>by subst h;exact Nat.beq_refl a⟩
theorem A1{a b:Nat}:Nat.blt a b=true↔a<b:=⟨Nat.le_of_ble_eq_true,Nat.ble_eq_true_of_le⟩
abbrev Pls:=List (Nat×List PS)
inductive SO where
 |gone
 |cells (cs:List RS)
 |rows (k:Nat) (es:List (List RS)) (frz:Bool)
 |map (kv:List (Value×RS))
 |loop (fr:Tr RS) (ps:List Nat) (assign body:Code) (st:LoopState) (pend:Option Code) (pls:Pls)
structure Sto where
 n:Nat
 t:Tr SO
def Sto.get(h:Sto)(i:Nat):SO:=match h.t.get 16 i with
 |some o=>o
 |none=>.gone
def Sto.put(h:Sto)(i:Nat)(o:SO):Sto:=⟨h.n,h.t.set 16 i o⟩
def Sto.new(h:Sto)(o:SO):Option (Nat×Sto):=gd (Nat.blt h.n 65536) (some (h.n,⟨h.n+1,h.t.set 16 h.n o⟩))
def ifr(c:Cx)(fr:Tr RS):Fr:=fun t=>if t<1024 then match fr.get 10 t with
 |some v=>v.iv c
 |none=>.v undef else .v undef
def io(c:Cx)(i:Nat):SO→Option Bn
 | .gone=>none
 | .cells cs=>some (.cells (RS.ivs c cs))
 | .rows k es frz=>some (.rows k (RS.ivss c es) frz (c.k i))
 | .map kv=>some (.map (kv.map fun p=>(p.1,p.2.iv c)))
 | .loop fr ps a b st pend _=>some (.loop (ifr c fr) (c.k i) ps a b st pend)
def wfr(n:Nat)(fr:Tr RS):Prop:=∀t v,t<1024→fr.get 10 t=some v→v.wf n
def SO.wf(n:Nat):SO→Prop
 | .gone=>True
 | .cells cs=>RS.wfs n cs
 | .rows _ es _=>RS.wfss n es
 | .map kv=>∀p∈kv,p.2.wf n
 | .loop fr _ _ _ _ _ _=>wfr n fr
def SO.len:SO→Nat
 | .rows _ es _=>es.length
 |_=>0
structure WfS(h:Sto):Prop where
 lt:h.n≤65536
 ob:∀i,i<h.n→(h.get i).wf h.n
structure Mt(σ0:St)(c:Cx)(h:Sto)(σ:St):Prop where
 a:∀i,(c.a i).one=true∧(c.a i).cells=[c.a i]
 wf:WfS h
 base:∀y o,σ0 y=some o→σ y=some o
 ob:∀i o,i<h.n→io c i (h.get i)=some o→σ (c.r i)=some o
 sep:∀i y o,i<h.n→h.get i≠.gone→σ0 y=some o→y≠c.r i
 inj:∀i j,i<h.n→j<h.n→h.get i≠.gone→h.get j≠.gone→c.r i=c.r j→i=j
 cap:∀i,i<h.n→(h.get i).len≤c.k i
section
variable{σ0 σ:St}{c c':Cx}{h h':Sto}{n:Nat}
theorem Sto.get_put{h:Sto}{i j:Nat}{o:SO}(hi:i<65536)(hj:j<65536):(h.put i o).get j=if j=i then o else h.get j:=by
 unfold Sto.get Sto.put;simp only;rw[Tr.get_set 16 _ _ _ _ (by simpa using hi) (by simpa using hj)];by_cases e:j=i
 ·rw[if_pos e,if_pos e]
 ·rw[if_neg e,if_neg e]
theorem Ahs{i:Nat}{o:SO}(h:o≠.gone):∃x,io c i o=some x:=by
 cases o<;>first|exact absurd rfl h|exact⟨_,rfl⟩
theorem Dc(ha:Dw n c c'){fr:Tr RS}(hw:wfr n fr):ifr c' fr=ifr c fr:=by
 funext t;unfold ifr;split
 ·rename_i ht
  split
  ·rename_i v hv;exact I8 ha v (hw t v ht hv)
  ·rfl
 ·rfl
theorem Ad3(ha:Dw n c c'){i:Nat}(hi:i<n){o:SO}(hw:o.wf n):io c' i o=io c i o:=by
 cases o with
 |gone=>rfl
 |cells cs=>simp only[io,D2 ha cs hw]
 |rows k es frz=>simp only[io,Gk ha es hw,ha.k i hi]
 |map kv=>
  simp only[io]
  congr 2
  refine List.map_congr_left fun p hp=>?_;rw[I8 ha p.2 (hw p hp)]
 |loop fr ps a b st pend pls=>simp only[io,Dc ha hw,ha.k i hi]
theorem Aan{n m:Nat}(h:n≤m){o:SO}(hw:o.wf n):o.wf m:=by
 cases o with
 |gone=>trivial
 |cells cs=>exact Dq h cs hw
 |rows k es frz=>exact J7 h es hw
 |map kv=>exact fun p hp=>G9 h p.2 (hw p hp)
 |loop fr ps a b st pend pls=>exact fun t v ht hv=>G9 h v (hw t v ht hv)
theorem Ee{n m:Nat}(h:n≤m){fr:Tr RS}(hw:wfr n fr):wfr m fr:=fun t v ht hv=>G9 h v (hw t v ht hv)
theorem Mt.put(hM:Mt σ0 c h σ){i:Nat}{o:SO}{x:Bn}(hi:i<h.n)(hne:h.get i≠.gone)(ho:io c i o=some x)(hw:o.wf h.n)(hc:o.len≤c.k i):Mt σ0 c (h.put i o) (σ.set (c.r i) x):=by
 have hlt:=hM.wf.lt;have hg:∀j,j<h.n→(h.put i o).get j=if j=i then o else h.get j:=fun j hj=>Sto.get_put (by omega) (by omega)
 have hgone:o≠.gone:=by rintro rfl;cases ho
 have hal:∀j,j<h.n→(h.put i o).get j≠.gone→h.get j≠.gone:=fun j hj hh=>by
  rw[hg j hj]at hh;split at hh
  ·rename_i e;subst e;exact hne
  ·exact hh
 refine⟨hM.a,⟨hlt,fun j hj=>?_⟩,fun y o hy=>?_,fun j x' hj hx=>?_,fun j y o' hj hn hy=>hM.sep j y o' hj (hal j hj hn) hy,fun j k hj hk h1 h2 e=>hM.inj j k hj hk (hal j hj h1) (hal k hk h2) e,fun j hj=>?_⟩
 ·rw[hg j hj]
  split
  ·exact hw
  ·exact hM.wf.ob j hj
 ·have:=hM.sep i y o hi hne hy
  simp only[St.set,if_neg this];exact hM.base y o hy
 ·rw[hg j hj]at hx
  split at hx
  ·rename_i e;subst e
   rw[ho]at hx;injection hx with hx;subst hx;simp[St.set]
  ·rename_i e
   have hjg:h.get j≠.gone:=by intro e2;rw[e2]at hx;cases hx
   have:c.r j≠c.r i:=fun e2=>e (hM.inj j i hj hi hjg hne e2);simp only[St.set,if_neg this];exact hM.ob j x' hj hx
 ·rw[hg j hj]
  split
  ·rename_i e;subst e;exact hc
  ·exact hM.cap j hj
theorem Mt.del(hM:Mt σ0 c h σ){i:Nat}(hi:i<h.n)(hne:h.get i≠.gone):Mt σ0 c (h.put i .gone) (σ.del (c.r i)):=by
 have hlt:=hM.wf.lt;have hg:∀j,j<h.n→(h.put i .gone).get j=if j=i then .gone else h.get j:=fun j hj=>Sto.get_put (by omega) (by omega)
 have hal:∀j,j<h.n→(h.put i .gone).get j≠.gone→j≠i∧h.get j≠.gone:=fun j hj hh=>by
  rw[hg j hj]at hh;split at hh
  ·exact absurd rfl hh
  ·rename_i e;exact⟨e,hh⟩
 refine⟨hM.a,⟨hlt,fun j hj=>?_⟩,fun y o hy=>?_,fun j x' hj hx=>?_,fun j y o' hj hn hy=>hM.sep j y o' hj (hal j hj hn).2 hy,fun j k hj hk h1 h2 e=>hM.inj j k hj hk (hal j hj h1).2 (hal k hk h2).2 e,fun j hj=>?_⟩
 ·rw[hg j hj]
  split
  ·trivial
  ·exact hM.wf.ob j hj
 ·have:=hM.sep i y o hi hne hy
  simp only[St.del,if_neg this];exact hM.base y o hy
 ·rw[hg j hj]at hx
  split at hx
  ·cases hx
  ·rename_i e
   have hjg:h.get j≠.gone:=by intro e2;rw[e2]at hx;cases hx
   have:c.r j≠c.r i:=fun e2=>e (hM.inj j i hj hi hjg hne e2);simp only[St.del,if_neg this];exact hM.ob j x' hj hx
 ·rw[hg j hj]
  split
  ·exact Nat.zero_le _
  ·exact hM.cap j hj
def Cx.more(c:Cx)(n b k:Nat):Cx:=⟨fun i=>if i=n then b else c.r i,fun i=>if i=n then k else c.k i,c.a⟩
theorem Gm(c:Cx)(n b k:Nat):Dw n c (c.more n b k):=
 ⟨fun i hi=>by simp only[Cx.more];rw[if_neg (by omega)],fun i hi=>by simp only[Cx.more];rw[if_neg (by omega)],rfl⟩
theorem Mt.new(hM:Mt σ0 c h σ){o:SO}{x:Bn}{b k i:Nat}(hb:σ b=none)(hn:h.new o=some (i,h'))(hx:io (c.more h.n b k) h.n o=some x)(hw:o.wf h.n)(hc:o.len≤k):
  i=h.n∧h'.n=h.n+1∧Mt σ0 (c.more h.n b k) h' (σ.set b x):=by
 unfold Sto.new at hn;rw[Ah,A1]at hn;obtain⟨hlt,hn⟩:=hn;injection hn with hn;injection hn with h1 h2;subst h1;subst h2;have hag:=Gm c h.n b k;have hr:(c.more h.n b k).r h.n=b:=by simp[Cx.more]
 have hk:(c.more h.n b k).k h.n=k:=by simp[Cx.more]
 have hg:∀j,j<h.n+1→(Sto.mk (h.n+1) (h.t.set 16 h.n o)).get j=if j=h.n then o else h.get j:=fun j hj=>by
  have:=Sto.get_put (h:=h) (o:=o) hlt (show j<65536 by omega);exact this
 have hwo:o.wf (h.n+1):=Aan (by omega) hw;have hfresh:∀j,j<h.n→h.get j≠.gone→c.r j≠b:=fun j hj hne e=>by
  obtain⟨y,hy⟩:=Ahs (c:=c) (i:=j) hne;have:=hM.ob j y hj hy;rw[e,hb]at this;cases this
 refine⟨rfl,rfl,⟨hM.a,⟨by show h.n+1≤65536;omega,fun j hj=>?_⟩,fun y o' hy=>?_,fun j x' hj hx'=>?_,fun j y o' hj hne hy=>?_,fun j l hj hl h1 h2 e=>?_,fun j hj=>?_⟩⟩
 ·have hj':j<h.n+1:=hj
  rw[hg j hj'];split
  ·exact hwo
  ·exact Aan (show h.n≤h.n+1 by omega) (hM.wf.ob j (by omega))
 ·have h1:=hM.base y o' hy
  have:y≠b:=fun e=>by subst e;rw[hb]at h1;cases h1
  simp only[St.set,if_neg this];exact h1
 ·have hj':j<h.n+1:=hj
  rw[hg j hj']at hx';split at hx'
  ·rename_i e;subst e
   rw[hx]at hx';injection hx' with hx';subst hx';rw[hr];simp[St.set]
  ·rename_i e
   have hjn:j<h.n:=by omega
   rw[Ad3 hag hjn (hM.wf.ob j hjn)]at hx';have hne:h.get j≠.gone:=by intro e2;rw[e2]at hx';cases hx'
   rw[hag.r j hjn];simp only[St.set,if_neg (hfresh j hjn hne)];exact hM.ob j x' hjn hx'
 ·have hj':j<h.n+1:=hj
  rw[hg j hj']at hne;split at hne
  ·rename_i e;subst e
   rw[hr];have h1:=hM.base y o' hy;intro e;subst e;rw[hb]at h1;cases h1
  ·have hjn:j<h.n:=by omega
   rw[hag.r j hjn];exact hM.sep j y o' hjn hne hy
 ·have hj':j<h.n+1:=hj
  have hl':l<h.n+1:=hl;rw[hg j hj']at h1;rw[hg l hl']at h2;by_cases ej:j=h.n<;>by_cases el:l=h.n
  ·omega
  ·rw[if_neg el]at h2
   rw[ej,hr,hag.r l (by omega)]at e;exact absurd e.symm (hfresh l (by omega) h2)
  ·rw[if_neg ej]at h1
   rw[el,hr,hag.r j (by omega)]at e;exact absurd e (hfresh j (by omega) h1)
  ·rw[if_neg ej]at h1
   rw[if_neg el]at h2;rw[hag.r j (by omega),hag.r l (by omega)]at e;exact hM.inj j l (by omega) (by omega) h1 h2 e
 ·have hj':j<h.n+1:=hj
  rw[hg j hj'];split
  ·rename_i e;subst e;rw[hk];exact hc
  ·rename_i e
   rw[hag.k j (by omega)];exact hM.cap j (by omega)
structure Ih(h h':Sto):Prop where
 lp:∀i fr ps a b st pend pls,i<h.n→h.get i= .loop fr ps a b st pend pls→h'.get i= .gone∨∃st' pend',h'.get i= .loop fr ps a b st' pend' pls
 gn:∀i,i<h.n→h.get i= .gone→h'.get i= .gone
theorem Ih.refl(h:Sto):Ih h h:=⟨fun _ _ _ _ _ st pend _ _ he=>.inr ⟨st,pend,he⟩,fun _ _ he=>he⟩
theorem Ih.trans{h1 h2 h3:Sto}(h:Ih h1 h2)(h':Ih h2 h3)(hn:h1.n≤h2.n):Ih h1 h3:=by
 refine⟨fun i fr ps a b st pend pls hi he=>?_,fun i hi he=>h'.gn i (by omega) (h.gn i hi he)⟩;rcases h.lp i fr ps a b st pend pls hi he with h1|⟨st',pend',h1⟩
 ·exact .inl (h'.gn i (by omega) h1)
 ·exact h'.lp i fr ps a b st' pend' pls (by omega) h1
theorem Ih.put{h:Sto}{i:Nat}{o:SO}(hlt:h.n≤65536)(hi:i<h.n)(hl:∀fr ps a b st pend pls,h.get i= .loop fr ps a b st pend pls→o= .gone∨∃st' pend',o= .loop fr ps a b st' pend' pls)(hg:h.get i= .gone→o= .gone):Ih h (h.put i o):=by
 have hgp:∀j,j<h.n→(h.put i o).get j=if j=i then o else h.get j:=fun j hj=>Sto.get_put (by omega) (by omega)
 refine⟨fun j fr ps a b st pend pls hj he=>?_,fun j hj he=>?_⟩
 ·rw[hgp j hj]
  split
  ·rename_i e;subst e;exact hl _ _ _ _ _ _ _ he
  ·exact .inr ⟨st,pend,he⟩
 ·rw[hgp j hj]
  split
  ·rename_i e;subst e;exact hg he
  ·exact he
theorem Ih.new{h h':Sto}{o:SO}{i:Nat}(hn:h.new o=some (i,h')):Ih h h':=by
 unfold Sto.new at hn;rw[Ah,A1]at hn;obtain⟨hlt,hn⟩:=hn;injection hn with hn;injection hn with h1 h2;subst h1;subst h2;have hg:∀j,j<h.n→(Sto.mk (h.n+1) (h.t.set 16 h.n o)).get j=h.get j:=fun j hj=>by
  have:=Sto.get_put (h:=h) (o:=o) hlt (show j<65536 by omega);rw[if_neg (by omega)]at this;exact this
 exact⟨fun j fr ps a b st pend pls hj he=>.inr ⟨st,pend,by rw[hg j hj];exact he⟩,fun j hj he=>by rw[hg j hj];exact he⟩
end
def P9:Value→RS
 | .agg cs=>.agg (cs.toList.map .v)
 | .tuple cs=>.tup (cs.toList.map .v)
 |x=>.v x
def eEv(fr:Tr RS):Operand→Option RS
 | .tmp t=>gd (Nat.blt t 1024) (fr.get 10 t)
 | .const v=>some (P9 v)
 | .func f=>some (.fn f [] [])
 | .global _=>none
def Pi(fr:Tr RS):List Operand→Option (List RS)
 | []=>some []
 |x::l=>match eEv fr x with
  |some v=>match Pi fr l with
   |some vs=>some (v::vs)
   |none=>none
  |none=>none
def RS.cells:RS→List RS
 | .agg cs=>cs
 | .v (.agg q)=>q.toList.map .v
 |x=>[x]
def RS.one:RS→Bool
 | .v x=>x.oneCell'
 | .agg _=>false
 | .tup _=>false
 |_=>true
section
variable{P:Program}{σ0 σ:St}{c c':Cx}{h h':Sto}{n:Nat}{fr:Tr RS}{v:RS}{K:AV→Prop}{k:AV→St→Prop}
theorem Pu(c:Cx)(l:List Value):RS.ivs c (l.map .v)=l.map AV.v:=by
 rw[Ce,List.map_map];refine List.map_congr_left fun x _=>?_;simp only[Function.comp,RS.iv,RS.vv]
theorem Qr(n:Nat)(l:List Value):RS.wfs n (l.map .v):=Ex.2 fun x hx=>by
 obtain⟨y,_,rfl⟩:=List.mem_map.1 hx;simp only[RS.wf]
theorem Abz(c:Cx)(x:Value):(P9 x).iv c=ofConst x:=by
 cases x<;>simp only[P9,ofConst,RS.iv,RS.vv,Pu]
theorem Ab0(n:Nat)(x:Value):(P9 x).wf n:=by
 cases x<;>simp only[P9,RS.wf,Qr]
theorem A5{x:Operand}(he:eEv fr x=some v):(ifr c fr).ev x=v.iv c:=by
 cases x with
 |tmp t=>
  simp only[eEv,Ah,A1]at he;simp only[Fr.ev,ifr,if_pos he.1,he.2]
 |const y=>simp only[eEv,Option.some.injEq]at he;subst he;rw[Abz];rfl
 |global g=>cases he
 |func f=>simp only[eEv,Option.some.injEq]at he;subst he;simp only[Fr.ev,RS.iv,RS.vv,RS.vvs]
theorem Bp{x:Operand}(hf:wfr n fr)(he:eEv fr x=some v):v.wf n:=by
 cases x with
 |tmp t=>
  simp only[eEv,Ah,A1]at he;exact hf t v he.1 he.2
 |const y=>simp only[eEv,Option.some.injEq]at he;subst he;exact Ab0 n y
 |global g=>cases he
 |func f=>simp only[eEv,Option.some.injEq]at he;subst he;simp only[RS.wf,RS.wfs,and_self]
theorem Ob:∀{l:List Operand} {vs:List RS},Pi fr l=some vs→l.map (ifr c fr).ev=vs.map (RS.iv c)
 | [],vs,he=>by simp only[Pi,Option.some.injEq]at he;subst he;rfl
 |x::l,vs,he=>by
  simp only[Pi]at he;split at he
  ·rename_i v hv
   split at he
   ·rename_i vs' hvs
    injection he with he;subst he;simp only[List.map_cons,A5 hv,Ob hvs]
   ·cases he
  ·cases he
theorem Oc(hf:wfr n fr):∀{l:List Operand} {vs:List RS},Pi fr l=some vs→RS.wfs n vs
 | [],vs,he=>by simp only[Pi,Option.some.injEq]at he;subst he;simp only[RS.wfs]
 |x::l,vs,he=>by
  simp only[Pi]at he;split at he
  ·rename_i v hv
   split at he
   ·rename_i vs' hvs
    injection he with he;subst he;simp only[RS.wfs];exact⟨Bp hf hv,Oc hf hvs⟩
   ·cases he
  ·cases he
theorem Iu(ha:∀i,(c.a i).one=true∧(c.a i).cells=[c.a i])(x:RS):(x.iv c).cells=RS.ivs c x.cells:=by
 cases x with
 |v y=>cases y<;>simp only[RS.iv,RS.vv,AV.cells,RS.cells,RS.ivs,Pu]
 |opq i=>simp only[RS.iv,RS.cells,RS.ivs,(ha i).2]
 |_=>simp only[RS.iv,RS.vv,AV.cells,RS.cells,RS.ivs]
theorem Lk{x:RS}(h:x.wf n):RS.wfs n x.cells:=by
 cases x with
 |v y=>cases y<;>simp only[RS.cells,Qr,RS.wfs,RS.wf,and_self]
 |_=>simp only[RS.cells,RS.wfs,and_true];exact h
theorem Ak1(ha:∀i,(c.a i).one=true∧(c.a i).cells=[c.a i])(x:RS):(x.iv c).one=x.one:=by
 cases x with
 |opq i=>simp only[RS.iv,RS.one,(ha i).1]
 |_=>simp only[RS.iv,RS.vv,AV.one,RS.one,Value.oneCell']
theorem Tj(ha:∀i,(c.a i).one=true∧(c.a i).cells=[c.a i])(l:List RS):(RS.ivs c l).all AV.one=l.all RS.one:=by
 rw[Ce,List.all_map]
 congr 1
 funext x;exact Ak1 ha x
theorem Ca(c:Cx)(l:List RS):(RS.ivs c l).length=l.length:=by rw[Ce,List.length_map]
theorem Be(c:Cx)(l:List (List RS)):(RS.ivss c l).length=l.length:=by rw[Bs,List.length_map]
theorem Pt{l:List RS}{i:Nat}{x:RS}(h:l[i]? =some x):(RS.ivs c l).getD i (.v undef)=x.iv c:=by
 rw[Ce,List.getD_eq_getElem?_getD,List.getElem?_map,h];rfl
theorem Ju{l:List (List RS)}{i:Nat}{x:List RS}(h:l[i]? =some x):(RS.ivss c l).getD i []=RS.ivs c x:=by
 rw[Bs,List.getD_eq_getElem?_getD,List.getElem?_map,h];rfl
theorem Vx(l:List RS)(i:Nat):(RS.ivs c l).take i=RS.ivs c (l.take i):=by rw[Ce,Ce,List.map_take]
theorem L2(l:List RS)(i:Nat):(RS.ivs c l).drop i=RS.ivs c (l.drop i):=by rw[Ce,Ce,List.map_drop]
theorem Fw(l:List (List RS))(i:Nat):(RS.ivss c l).take i=RS.ivss c (l.take i):=by rw[Bs,Bs,List.map_take]
theorem Jt(l:List (List RS))(i:Nat):(RS.ivss c l).drop i=RS.ivss c (l.drop i):=by rw[Bs,Bs,List.map_drop]
theorem L1(l l':List RS):RS.ivs c (l++l')=RS.ivs c l++RS.ivs c l':=by rw[Ce,Ce,Ce,List.map_append]
theorem I9(l l':List (List RS)):RS.ivss c (l++l')=RS.ivss c l++RS.ivss c l':=by rw[Bs,Bs,Bs,List.map_append]
theorem Vz(l:List (List RS))(i:Nat)(x:List RS):RS.ivss c (l.set i x)=(RS.ivss c l).set i (RS.ivs c x):=by rw[Bs,Bs,List.map_set]
theorem Wx{l:List RS}(i:Nat)(h:RS.wfs n l):RS.wfs n (l.take i):=Ex.2 fun x hx=>Ex.1 h x (List.mem_of_mem_take hx)
theorem Mm{l:List RS}(i:Nat)(h:RS.wfs n l):RS.wfs n (l.drop i):=Ex.2 fun x hx=>Ex.1 h x (List.mem_of_mem_drop hx)
theorem J5{l l':List RS}(h:RS.wfs n l)(h':RS.wfs n l'):RS.wfs n (l++l'):=Ex.2 fun x hx=>(List.mem_append.1 hx).elim (Ex.1 h x) (Ex.1 h' x)
theorem Hv{l:List (List RS)}(i:Nat)(h:RS.wfss n l):RS.wfss n (l.take i):=Cb.2 fun x hx=>Cb.1 h x (List.mem_of_mem_take hx)
theorem J6{l:List (List RS)}(i:Nat)(h:RS.wfss n l):RS.wfss n (l.drop i):=Cb.2 fun x hx=>Cb.1 h x (List.mem_of_mem_drop hx)
theorem Hu{l l':List (List RS)}(h:RS.wfss n l)(h':RS.wfss n l'):RS.wfss n (l++l'):=Cb.2 fun x hx=>(List.mem_append.1 hx).elim (Cb.1 h x) (Cb.1 h' x)
theorem Wz{l:List (List RS)}{i:Nat}{x:List RS}(h:RS.wfss n l)(hx:RS.wfs n x):RS.wfss n (l.set i x):=Cb.2 fun y hy=>by
 rcases List.mem_or_eq_of_mem_set hy with hy|rfl
 ·exact Cb.1 h y hy
 ·exact hx
theorem Oj{l:List RS}{i:Nat}{x:RS}(h:RS.wfs n l)(hx:l[i]? =some x):x.wf n:=Ex.1 h x (List.mem_of_getElem? hx)
theorem Jk{l:List (List RS)}{i:Nat}{x:List RS}(h:RS.wfss n l)(hx:l[i]? =some x):RS.wfs n x:=Cb.1 h x (List.mem_of_getElem? hx)
theorem Kv{α:Type}{l:List α}{i:Nat}{x:α}(h:l[i]? =some x):i<l.length:=(List.getElem?_eq_some_iff.1 h).1
def Ix(ag:Bool)(sz off:Nat)(cs:List RS):Option RS:=match ag with
 |true=>gd (Nat.ble (off+sz) cs.length) (some (.agg ((cs.drop off).take sz)))
 |false=>cs[off]?
theorem Hi{ag:Bool}{sz off:Nat}{cs:List RS}(he:Ix ag sz off cs=some v)(hk:K (v.iv c)):Ie ag off sz (RS.ivs c cs) K:=by
 unfold Ie;cases ag with
 |true=>
  simp only[Ix,Ah,Bf,Option.some.injEq]at he;obtain⟨h1,rfl⟩:=he;rw[if_pos rfl,Ca];refine⟨h1,?_⟩;simp only[RS.iv,←Vx,←L2]at hk;exact hk
 |false=>
  simp only[Ix]at he;rw[if_neg (by simp),Ca,Pt he];exact⟨Kv he,hk⟩
theorem Hj{ag:Bool}{sz off:Nat}{cs:List RS}(hw:RS.wfs n cs)(he:Ix ag sz off cs=some v):v.wf n:=by
 cases ag with
 |true=>
  simp only[Ix,Ah,Bf,Option.some.injEq]at he;obtain⟨h1,rfl⟩:=he;simp only[RS.wf];exact Wx _ (Mm _ hw)
 |false=>exact Oj hw he
def Lr(i:TK)(h:Sto):RS→Option RS
 | .fp cs=>Ix i.ag i.sz 0 cs
 | .ptr b o=>match h.get b with
  | .cells cs=>Ix i.ag i.sz o cs
  |_=>none
 | .rp b q j f=>match h.get b with
  | .rows q' es _=>gd (Nat.beq q' q) (match es[j]? with
   |some e=>gd (match i.ag with|true=>Nat.ble (f+i.sz) q|false=>Nat.blt f q) (Ix i.ag i.sz f e)
   |none=>none)
  |_=>none
 |_=>none
theorem Adb(hM:Mt σ0 c h σ){i:TK}{p:RS}(hp:p.wf h.n)(he:Lr i h p=some v)(hk:K (v.iv c)):B8 (some i) σ (p.iv c) K:=by
 cases p with
 |fp cs=>
  simp only[Lr]at he;have:=Hi he hk;simp only[RS.iv,B8];unfold Ie at this;cases hg:i.ag with
  |true=>rw[hg]at this;simpa using this
  |false=>rw[hg]at this;simpa using this
 |ptr b o=>
  simp only[Lr]at he;split at he
  ·rename_i cs hb
   simp only[RS.wf]at hp;have h1:io c b (h.get b)=some (.cells (RS.ivs c cs)):=by rw[hb];rfl
   have h2:=hM.ob b _ hp h1;have:=Hi he hk;simp only[RS.iv,RS.vv,B8,h2];unfold Ie at this;exact this
  ·cases he
 |rp b q j f=>
  simp only[Lr]at he;split at he
  ·rename_i q' es frz hb
   simp only[RS.wf]at hp;rw[Ah,Aq]at he;obtain⟨rfl,he⟩:=he;have h1:io c b (h.get b)=some (.rows q' (RS.ivss c es) frz (c.k b)):=by rw[hb];rfl
   have h2:=hM.ob b _ hp h1;split at he
   ·rename_i e hj
    rw[Ah]at he;have:=Hi he.2 hk;simp only[RS.iv,B8,h2,Be,Ju hj];refine⟨trivial,Kv hj,?_⟩;unfold Ie at this;cases hg:i.ag with
    |true=>
     rw[hg]at this he;simp only[if_true]at this⊢;exact⟨Bf.1 he.1,this.2⟩
    |false=>
     rw[hg]at this he;simp only[Bool.false_eq_true,if_false]at this⊢;exact⟨A1.1 he.1,this.2⟩
   ·cases he
  ·cases he
 |_=>cases he
theorem Adc(hS:WfS h){i:TK}{p:RS}(hp:p.wf h.n)(he:Lr i h p=some v):v.wf h.n:=by
 cases p with
 |fp cs=>simp only[Lr]at he;simp only[RS.wf]at hp;exact Hj hp he
 |ptr b o=>
  simp only[Lr]at he;simp only[RS.wf]at hp;have:=hS.ob b hp;split at he
  ·rename_i cs hb
   rw[hb]at this;exact Hj this he
  ·cases he
 |rp b q j f=>
  simp only[Lr]at he;simp only[RS.wf]at hp;have:=hS.ob b hp;split at he
  ·rename_i q' es frz hb
   rw[hb]at this;rw[Ah]at he;have he:=he.2;split at he
   ·rename_i e hj
    rw[Ah]at he;exact Hj (Jk this hj) he.2
   ·cases he
  ·cases he
 |_=>cases he
def J0(cs:List RS)(o:Nat)(xs:List RS):List RS:=cs.take o++xs++cs.drop (o+xs.length)
theorem Ky(cs:List RS)(o:Nat)(xs:List RS):RS.ivs c (J0 cs o xs)=Au (RS.ivs c cs) o (RS.ivs c xs):=by
 unfold J0 Au;rw[L1,L1,Vx,L2,Ca]
theorem K9{cs xs:List RS}(o:Nat)(h:RS.wfs n cs)(h':RS.wfs n xs):RS.wfs n (J0 cs o xs):=J5 (J5 (Wx _ h) h') (Mm _ h)
def Xh(i:TK)(h:Sto)(p x:RS):Option Sto:=gd (Nat.beq x.cells.length i.sz&&x.cells.all RS.one) (match p with
 | .ptr b o=>match h.get b with
  | .cells cs=>gd (Nat.ble (o+i.sz) cs.length) (some (h.put b (.cells (J0 cs o x.cells))))
  |_=>none
 | .rp b q j f=>match h.get b with
  | .rows q' es false=>gd (Nat.beq q' q&&Nat.ble (f+i.sz) q) (match es[j]? with
   |some e=>some (h.put b (.rows q (es.set j (J0 e f x.cells)) false))
   |none=>none)
  |_=>none
 |_=>none)
theorem Abi(hM:Mt σ0 c h σ){i:TK}{p x:RS}(hp:p.wf h.n)(hx:x.wf h.n)(he:Xh i h p x=some h'){k:St→Prop}(hk:∀σ',h'.n=h.n→Ih h h'→Mt σ0 c h' σ'→k σ'):Ek (some i) σ (p.iv c) (x.iv c) k:=by
 unfold Xh at he;rw[Ah,Bool.and_eq_true,Aq]at he;obtain⟨⟨h1,h2⟩,he⟩:=he;simp only[Ek,Iu hM.a,Ca,Tj hM.a];refine⟨h1,h2,?_⟩;have hxw:=Lk hx;cases p with
 |ptr b o=>
  simp only at he;split at he
  ·rename_i cs hb
   simp only[RS.wf]at hp;rw[Ah,Bf]at he;obtain⟨h3,he⟩:=he;injection he with he;subst he;have h4:io c b (h.get b)=some (.cells (RS.ivs c cs)):=by rw[hb];rfl
   have h5:=hM.ob b _ hp h4;have hw:=hM.wf.ob b hp;rw[hb]at hw;simp only[RS.iv,RS.vv,h5,Ca];refine⟨h3,hk _ rfl (.put hM.wf.lt hp (by rw[hb];intro _ _ _ _ _ _ _ e;cases e) (by rw[hb];intro e;cases e)) ?_⟩;refine hM.put hp (by rw[hb];intro e;cases e) ?_ (K9 o hw hxw) (Nat.zero_le _);simp only[io,Ky]
  ·cases he
 |rp b q j f=>
  simp only at he;split at he
  ·rename_i q' es hb
   simp only[RS.wf]at hp;rw[Ah,Bool.and_eq_true,Aq,Bf]at he;obtain⟨⟨rfl,h3⟩,he⟩:=he;split at he
   ·rename_i e hj
    injection he with he;subst he;have h4:io c b (h.get b)=some (.rows q' (RS.ivss c es) false (c.k b)):=by rw[hb];rfl
    have h5:=hM.ob b _ hp h4;have hw:=hM.wf.ob b hp;have hcap:=hM.cap b hp;rw[hb]at hw hcap;simp only[RS.iv,h5,Be,Ju hj];refine⟨trivial,Kv hj,h3,hk _ rfl (.put hM.wf.lt hp (by rw[hb];intro _ _ _ _ _ _ _ e;cases e) (by rw[hb];intro e;cases e)) ?_⟩;refine hM.put hp (by rw[hb];intro e;cases e) ?_ (Wz hw (K9 f (Jk hw hj) hxw)) (by simpa[SO.len]using hcap);simp only[io,Vz,Ky]
   ·cases he
  ·cases he
 |_=>cases he
end
section
variable{P:Program}{σ0 σ:St}{c c':Cx}{h h':Sto}{n:Nat}{fr:Tr RS}{v:RS}{K:AV→Prop}{k:AV→St→Prop}
def eNil:RS→Option RS
 | .ptr i o=>some (.ptr i o)
 | .fp cs=>some (.fp cs)
 | .rp i k j f=>some (.rp i k j f)
 | .fn f fi ca=>some (.fn f fi ca)
 | .yld l=>some (.yld l)
 |_=>none
theorem Ago{x:RS}(he:eNil x=some v)(hk:K (v.iv c)):Mr (x.iv c) K:=by
 cases x<;>first|(cases he;done)|(simp only[eNil,Option.some.injEq]at he;subst he;simpa only[RS.iv,RS.vv,Mr]using hk)
theorem Agp{x:RS}(hx:x.wf n)(he:eNil x=some v):v.wf n:=by
 cases x<;>first|(cases he;done)|(simp only[eNil,Option.some.injEq]at he;subst he;exact hx)
def Vd(i:TK)(f:Nat)(x:RS):Option RS:=match i.td with
 | .st fs=>match fs[f]? with
  |some (off,sz,_)=>gd (Nat.blt 0 sz) (match x with
   | .ptr b p=>some (.ptr b (p+off))
   | .fp cs=>gd (Nat.ble off cs.length) (some (.fp (cs.drop off)))
   | .rp b q j g=>some (.rp b q j (g+off))
   |_=>none)
  |none=>none
 |_=>none
theorem Ac5{i:TK}{f:Nat}{x:RS}(he:Vd i f x=some v)(hk:K (v.iv c)):Gu (some i) f (x.iv c) K:=by
 unfold Vd at he;simp only[Gu];split at he
 ·rename_i fs htd
  simp only[htd];split at he
  ·rename_i off sz bb hf
   simp only[hf];rw[Ah,A1]at he;obtain⟨h1,he⟩:=he;refine⟨h1,?_⟩;cases x with
   |ptr b p=>simp only[Option.some.injEq]at he;subst he;simpa only[RS.iv,RS.vv]using hk
   |fp cs=>
    simp only[Ah,Bf,Option.some.injEq]at he;obtain⟨h2,rfl⟩:=he;simp only[RS.iv,Ca,←L2]at hk⊢;exact⟨h2,hk⟩
   |rp b q j g=>simp only[Option.some.injEq]at he;subst he;simpa only[RS.iv,RS.vv]using hk
   |_=>cases he
  ·cases he
 ·cases he
theorem Ac6{i:TK}{f:Nat}{x:RS}(hx:x.wf n)(he:Vd i f x=some v):v.wf n:=by
 unfold Vd at he;split at he
 ·split at he
  ·rw[Ah]at he
   have he:=he.2;cases x with
   |ptr b p=>simp only[Option.some.injEq]at he;subst he;exact hx
   |fp cs=>
    simp only[Ah,Option.some.injEq]at he;obtain⟨h2,rfl⟩:=he;simp only[RS.wf]at hx⊢;exact Mm _ hx
   |rp b q j g=>simp only[Option.some.injEq]at he;subst he;exact hx
   |_=>cases he
  ·cases he
 ·cases he
def eFld(i:TK)(f:Nat)(x:RS):Option RS:=match i.td with
 | .st fs=>match fs[f]? with
  |some (off,sz,ag)=>match x with
   | .agg cs=>Ix ag sz off cs
   |_=>none
  |none=>none
 |_=>none
theorem Agf{i:TK}{f:Nat}{x:RS}(he:eFld i f x=some v)(hk:K (v.iv c)):Lb (some i) f (x.iv c) K:=by
 unfold eFld at he;simp only[Lb];split at he
 ·rename_i fs htd
  simp only[htd];split at he
  ·rename_i off sz ag hf
   simp only[hf];cases x with
   |agg cs=>simp only[RS.iv];exact Hi he hk
   |_=>cases he
  ·cases he
 ·cases he
theorem Agg{i:TK}{f:Nat}{x:RS}(hx:x.wf n)(he:eFld i f x=some v):v.wf n:=by
 unfold eFld at he;split at he
 ·split at he
  ·cases x with
   |agg cs=>simp only[RS.wf]at hx;exact Hj hx he
   |_=>cases he
  ·cases he
 ·cases he
def eNat:RS→Option Nat
 | .v (.int _ (.ofNat j))=>some j
 |_=>none
theorem Ls{x:RS}{j:Nat}(he:eNat x=some j):∃ik,x= .v (.int ik (j:Int)):=by
 unfold eNat at he;split at he
 ·injection he with he;subst he;exact⟨_,rfl⟩
 ·cases he
def Vf(i:TK)(x ix:RS):Option RS:=match eNat ix with
 |none=>none
 |some j=>match i.td with
  | .arr m esz _=>gd (Nat.blt j m) (match x with
   | .ptr b p=>some (.ptr b (p+j*esz))
   | .fp cs=>gd (Nat.ble (j*esz) cs.length) (some (.fp (cs.drop (j*esz))))
   | .rp b q r f=>some (.rp b q r (f+j*esz))
   |_=>none)
  | .sl esz _ _ _=>match x with
   | .sl q es=>gd (Nat.beq q esz) (match es[j]? with|some e=>some (.fp e)|none=>none)
   | .fsl q es=>gd (Nat.beq q esz) (match es[j]? with|some e=>some (.fp e)|none=>none)
   | .row b n=>gd (Nat.blt j n&&Nat.blt 0 esz) (some (.rp b esz j 0))
   | .part b q l n=>gd (Nat.blt j n&&Nat.blt 0 esz&&Nat.beq q esz) (some (.rp b esz (l+j) 0))
   |_=>none
  |_=>none
theorem Ac9{i:TK}{x ix:RS}(he:Vf i x ix=some v)(hk:K (v.iv c)):Dy (some i) σ (x.iv c) (ix.iv c) K:=by
 unfold Vf at he;split at he
 ·cases he
 ·rename_i j hj
  obtain⟨ik,rfl⟩:=Ls hj;simp only[Dy,RS.iv,RS.vv];split at he
  ·rename_i m esz eag htd
   simp only[htd];rw[Ah,A1]at he;obtain⟨h1,he⟩:=he;cases x with
   |ptr b p=>
    simp only[Option.some.injEq]at he;subst he;simp only[RS.iv,RS.vv,Int.toNat_natCast]at hk⊢;exact⟨by omega,by omega,hk⟩
   |fp cs=>
    simp only[Ah,Bf,Option.some.injEq]at he;obtain⟨h2,rfl⟩:=he;simp only[RS.iv,Ca,←L2,Int.toNat_natCast]at hk⊢;exact⟨by omega,by omega,h2,hk⟩
   |rp b q r f=>
    simp only[Option.some.injEq]at he;subst he;simp only[RS.iv,RS.vv,Int.toNat_natCast]at hk⊢;exact⟨by omega,by omega,hk⟩
   |_=>cases he
  ·rename_i esz eby ez byt htd
   simp only[htd];cases x with
   |sl q es=>
    simp only[Ah,Aq]at he;obtain⟨h1,he⟩:=he;split at he
    ·rename_i e hg
     injection he with he;subst he;simp only[RS.iv,Be,Int.toNat_natCast,Ju hg]at hk⊢;exact⟨h1,by omega,by have:=Kv hg;omega,hk⟩
    ·cases he
   |fsl q es=>
    simp only[Ah,Aq]at he;obtain⟨h1,he⟩:=he;split at he
    ·rename_i e hg
     injection he with he;subst he;simp only[RS.iv,Be,Int.toNat_natCast,Ju hg]at hk⊢;exact⟨h1,by omega,by have:=Kv hg;omega,hk⟩
    ·cases he
   |row b n=>
    simp only[Ah,Bool.and_eq_true,A1,Option.some.injEq]at he;obtain⟨⟨h1,h2⟩,rfl⟩:=he;simp only[RS.iv,RS.vv,Int.toNat_natCast,Nat.zero_div,Nat.zero_add]at hk⊢;exact⟨by simp,by omega,by omega,hk⟩
   |part b q l n=>
    simp only[Ah,Bool.and_eq_true,A1,Aq,Option.some.injEq]at he;obtain⟨⟨⟨h1,h2⟩,rfl⟩,rfl⟩:=he;simp only[RS.iv,RS.vv,Int.toNat_natCast,Nat.mul_div_cancel _ h2]at hk⊢;exact⟨by simp,by omega,by omega,hk⟩
   |_=>cases he
  ·cases he
theorem Ada{i:TK}{x ix:RS}(hx:x.wf n)(he:Vf i x ix=some v):v.wf n:=by
 unfold Vf at he;split at he
 ·cases he
 ·split at he
  ·rw[Ah]at he
   have he:=he.2;cases x with
   |ptr b p=>simp only[Option.some.injEq]at he;subst he;exact hx
   |fp cs=>
    simp only[Ah,Option.some.injEq]at he;obtain⟨h2,rfl⟩:=he;simp only[RS.wf]at hx⊢;exact Mm _ hx
   |rp b q r f=>simp only[Option.some.injEq]at he;subst he;exact hx
   |_=>cases he
  ·cases x with
   |sl q es=>
    simp only[Ah]at he;have he:=he.2;split at he
    ·rename_i e hg
     injection he with he;subst he;simp only[RS.wf]at hx⊢;exact Jk hx hg
    ·cases he
   |fsl q es=>
    simp only[Ah]at he;have he:=he.2;split at he
    ·rename_i e hg
     injection he with he;subst he;simp only[RS.wf]at hx⊢;exact Jk hx hg
    ·cases he
   |row b n=>simp only[Ah,Option.some.injEq]at he;obtain⟨_,rfl⟩:=he;exact hx
   |part b q l n=>simp only[Ah,Option.some.injEq]at he;obtain⟨_,rfl⟩:=he;exact hx
   |_=>cases he
  ·cases he
def eIdx(i:TK)(x ix:RS):Option RS:=match eNat ix with
 |none=>none
 |some j=>match i.td with
  | .arr m esz ag=>match x with
   | .agg cs=>gd (Nat.blt j m) (Ix ag esz (j*esz) cs)
   |_=>none
  | .str=>match x with
   | .v (.string s)=>match s.data.toList[j]? with
    |some b=>some (.v (.int .u8 b.toNat))
    |none=>none
   |_=>none
  |_=>none
theorem Agi{i:TK}{x ix:RS}(he:eIdx i x ix=some v)(hk:K (v.iv c)):Om (some i) (x.iv c) (ix.iv c) K:=by
 unfold eIdx at he;split at he
 ·cases he
 ·rename_i j hj
  obtain⟨ik,rfl⟩:=Ls hj;simp only[Om,RS.iv,RS.vv];split at he
  ·rename_i m esz ag htd
   simp only[htd];cases x with
   |agg cs=>
    simp only[Ah,A1]at he;simp only[RS.iv,Int.toNat_natCast];exact⟨by omega,by omega,Hi he.2 hk⟩
   |_=>cases he
  ·rename_i htd
   simp only[htd];split at he
   ·rename_i s
    split at he
    ·rename_i b hb
     injection he with he;subst he;simp only[RS.iv,RS.vv,Int.toNat_natCast,List.getD_eq_getElem?_getD,hb,Option.getD_some]at hk⊢;have:=Kv hb;rw[Array.length_toList]at this;exact⟨by omega,Int.ofNat_lt.2 this,hk⟩
    ·cases he
   ·cases he
  ·cases he
theorem Agj{i:TK}{x ix:RS}(hx:x.wf n)(he:eIdx i x ix=some v):v.wf n:=by
 unfold eIdx at he;split at he
 ·cases he
 ·split at he
  ·cases x with
   |agg cs=>simp only[Ah]at he;simp only[RS.wf]at hx;exact Hj hx he.2
   |_=>cases he
  ·split at he
   ·split at he
    ·injection he with he;subst he;simp only[RS.wf]
    ·cases he
   ·cases he
  ·cases he
def eExt(x:RS)(j:Nat):Option RS:=match x with
 | .tup vs=>vs[j]?
 |_=>none
theorem Agd{x:RS}{j:Nat}(he:eExt x j=some v)(hk:K (v.iv c)):Ff (x.iv c) j K:=by
 cases x with
 |tup vs=>
  simp only[eExt]at he;simp only[RS.iv,Ff,Ca,Pt he];exact⟨Kv he,hk⟩
 |_=>cases he
theorem Age{x:RS}{j:Nat}(hx:x.wf n)(he:eExt x j=some v):v.wf n:=by
 cases x with
 |tup vs=>simp only[RS.wf]at hx;exact Oj hx he
 |_=>cases he
def Vh(c x y:RS):Option RS:=match c with
 | .v (.bool true)=>some x
 | .v (.bool false)=>some y
 |_=>none
theorem Adi{p x y:RS}(he:Vh p x y=some v)(hk:K (v.iv c)):Hf (p.iv c) (x.iv c) (y.iv c) K:=by
 unfold Vh at he;split at he
 ·injection he with he;subst he;simpa only[RS.iv,RS.vv,Hf,if_true]using hk
 ·injection he with he;subst he;simpa only[RS.iv,RS.vv,Hf,Bool.false_eq_true,if_false]using hk
 ·cases he
theorem Adj{p x y:RS}(hx:x.wf n)(hy:y.wf n)(he:Vh p x y=some v):v.wf n:=by
 unfold Vh at he;split at he
 ·injection he with he;subst he;exact hx
 ·injection he with he;subst he;exact hy
 ·cases he
def eLen(i:TK)(x:RS):Option RS:=match i.td with
 | .str=>match x with
  | .v (.string s)=>some (.v (.int .i64 (.ofNat s.data.toList.length)))
  |_=>none
 | .sl _ _ _ _=>match x with
  | .sl _ es=>some (.v (.int .i64 (.ofNat es.length)))
  | .fsl _ es=>some (.v (.int .i64 (.ofNat es.length)))
  | .v (.slice _ n _)=>some (.v (.int .i64 (.ofNat n)))
  | .row _ n=>some (.v (.int .i64 (.ofNat n)))
  | .part _ _ _ n=>some (.v (.int .i64 (.ofNat n)))
  | .mt _ _ _=>some (.v (.int .i64 (.ofNat 0)))
  |_=>none
 | .arr m _ _=>some (.v (.int .i64 (.ofNat m)))
 |_=>none
theorem Agl{i:TK}{x:RS}(he:eLen i x=some v)(hk:K (v.iv c)):Im (some i) (x.iv c) K:=by
 unfold eLen at he;simp only[Im];split at he
 ·rename_i htd
  simp only[htd];split at he
  ·injection he with he;subst he
   simpa only[RS.iv,RS.vv,ByteArray.size,Array.length_toList,Int.ofNat_eq_natCast]using hk
  ·cases he
 ·rename_i htd
  simp only[htd]
  split at he<;>first
   |(cases he;done)
   |(injection he with he;subst he;simpa only[RS.iv,RS.vv,Be,Int.ofNat_eq_natCast]using hk)
 ·rename_i htd
  simp only[htd];injection he with he;subst he;simpa only[RS.iv,RS.vv,Int.ofNat_eq_natCast]using hk
 ·cases he
theorem Agm{i:TK}{x:RS}(he:eLen i x=some v):v.wf n:=by
 unfold eLen at he;split at he
 ·split at he<;>first|(cases he;done)|(injection he with he;subst he;simp only[RS.wf])
 ·split at he<;>first|(cases he;done)|(injection he with he;subst he;simp only[RS.wf])
 ·injection he with he;subst he;simp only[RS.wf]
 ·cases he
def Lq(fs:Nat→Option (Nat×Nat)):List RS→List (Nat×RS)→Option RS
 |cs,[]=>some (.agg cs)
 |cs,(j,x)::r=>match fs j with
  |some (off,sz)=>gd (Nat.beq x.cells.length sz&&Nat.ble (off+sz) cs.length) (Lq fs (J0 cs off x.cells) r)
  |none=>none
def ivp(c:Cx)(ps:List (Nat×RS)):List (Nat×AV):=ps.map fun p=>(p.1,p.2.iv c)
theorem Pj(ha:∀i,(c.a i).one=true∧(c.a i).cells=[c.a i]){fs:Nat→Option (Nat×Nat)}(hk:K (v.iv c)):∀{ps:List (Nat×RS)} {cs:List RS},Lq fs cs ps=some v→Ez fs K (RS.ivs c cs) (ivp c ps)
 | [],cs,he=>by simp only[Lq,Option.some.injEq]at he;subst he;simpa only[RS.iv,ivp,List.map_nil,Ez]using hk
 |(j,x)::r,cs,he=>by
  simp only[Lq]at he;simp only[ivp,List.map_cons,Ez];split at he
  ·rename_i off sz hf
   rw[Ah,Bool.and_eq_true,Aq,Bf]at he;simp only[hf,Iu ha,Ca];refine⟨he.1.1,he.1.2,?_⟩;rw[←Ky];exact Pj ha hk he.2
  ·cases he
theorem Pk{fs:Nat→Option (Nat×Nat)}:∀{ps:List (Nat×RS)} {cs:List RS},(∀p∈ps,p.2.wf n)→RS.wfs n cs→Lq fs cs ps=some v→v.wf n
 | [],cs,_,hc,he=>by simp only[Lq,Option.some.injEq]at he;subst he;simpa only[RS.wf]using hc
 |(j,x)::r,cs,hp,hc,he=>by
  simp only[Lq]at he;split at he
  ·rw[Ah]at he
   exact Pk (fun p h=>hp p (by simp[h])) (K9 _ hc (Lk (hp (j,x) (by simp)))) he.2
  ·cases he
def Ph(i:TK)(ps:List (Nat×RS)):Option RS:=match i.td with
 | .st fs=>Lq (fun j=>(fs[j]?).map fun f=>(f.1,f.2.1)) (i.zr.map .v) ps
 | .arr _ esz _=>Lq (fun j=>some (j*esz,esz)) (i.zr.map .v) ps
 |_=>none
theorem Abe(ha:∀i,(c.a i).one=true∧(c.a i).cells=[c.a i]){i:TK}{ps:List (Nat×RS)}(he:Ph i ps=some v)(hk:K (v.iv c)):Fz (some i) (ivp c ps) K:=by
 unfold Ph at he;simp only[Fz];split at he
 ·rename_i fs htd;simp only[htd];rw[←Pu c];exact Pj ha hk he
 ·rename_i m esz ag htd;simp only[htd];rw[←Pu c];exact Pj ha hk he
 ·cases he
theorem Abf{i:TK}{ps:List (Nat×RS)}(hp:∀p∈ps,p.2.wf n)(he:Ph i ps=some v):v.wf n:=by
 unfold Ph at he;split at he
 ·exact Pk hp (Qr n _) he
 ·exact Pk hp (Qr n _) he
 ·cases he
def Iw(esz:Nat):List (List RS)→List (Nat×RS)→Option RS
 |es,[]=>some (.fsl esz es)
 |es,(j,x)::r=>gd (Nat.blt j es.length&&Nat.beq x.cells.length esz&&x.cells.all RS.one) (Iw esz (es.set j x.cells) r)
theorem Rc(ha:∀i,(c.a i).one=true∧(c.a i).cells=[c.a i]){esz:Nat}(hk:K (v.iv c)):∀{ps:List (Nat×RS)} {es:List (List RS)},Iw esz es ps=some v→Fg esz (fun es=>K (.fsl esz es)) (RS.ivss c es) (ivp c ps)
 | [],es,he=>by simp only[Iw,Option.some.injEq]at he;subst he;simpa only[RS.iv,ivp,List.map_nil,Fg]using hk
 |(j,x)::r,es,he=>by
  simp only[Iw]at he;simp only[ivp,List.map_cons,Fg];rw[Ah,Bool.and_eq_true,Bool.and_eq_true,A1,Aq]at he;simp only[Iu ha,Ca,Be,Tj ha];refine⟨he.1.1.1,he.1.1.2,he.1.2,?_⟩;rw[←Vz];exact Rc ha hk he.2
theorem Re{esz:Nat}:∀{ps:List (Nat×RS)} {es:List (List RS)},(∀p∈ps,p.2.wf n)→RS.wfss n es→Iw esz es ps=some v→v.wf n
 | [],es,_,hc,he=>by simp only[Iw,Option.some.injEq]at he;subst he;simpa only[RS.wf]using hc
 |(j,x)::r,es,hp,hc,he=>by
  simp only[Iw]at he;rw[Ah]at he;exact Re (fun p h=>hp p (by simp[h])) (Wz hc (Lk (hp (j,x) (by simp)))) he.2
theorem Vy(m:Nat)(l:List Value):RS.ivss c (List.replicate m (l.map .v))=List.replicate m (l.map AV.v):=by
 rw[Bs,List.map_replicate,Pu]
theorem Wy(n m:Nat)(l:List Value):RS.wfss n (List.replicate m (l.map .v)):=Cb.2 fun x hx=>by
 obtain⟨_,rfl⟩:=List.mem_replicate.1 hx;exact Qr n l
def Lp(i:TK)(len:Nat)(ps:List (Nat×RS)):Option RS:=match i.td with
 | .sl esz _ ez _=>gd (Nat.blt 0 esz&&Nat.ble (len*esz) 16777216&&ez.all Value.oneCell') (Iw esz (List.replicate len (ez.map .v)) ps)
 |_=>none
theorem Xd(ha:∀i,(c.a i).one=true∧(c.a i).cells=[c.a i]){i:TK}{len:Nat}{ps:List (Nat×RS)}(he:Lp i len ps=some v)(hk:K (v.iv c)):Eu (some i) len (ivp c ps) K:=by
 unfold Lp at he;simp only[Eu];split at he
 ·rename_i esz eby ez byt htd
  simp only[htd];rw[Ah,Bool.and_eq_true,Bool.and_eq_true,A1,Bf]at he;refine⟨he.1.1.1,he.1.1.2,he.1.2,?_⟩;rw[←Vy (c:=c)];exact Rc ha hk he.2
 ·cases he
theorem Xe{i:TK}{len:Nat}{ps:List (Nat×RS)}(hp:∀p∈ps,p.2.wf n)(he:Lp i len ps=some v):v.wf n:=by
 unfold Lp at he;split at he
 ·rw[Ah]at he
  exact Re hp (Wy n _ _) he.2
 ·cases he
def S2(fr:Tr RS):List (Nat×Operand)→Option (List (Nat×RS))
 | []=>some []
 |(j,x)::l=>match eEv fr x with
  |some v=>match S2 fr l with
   |some vs=>some ((j,v)::vs)
   |none=>none
  |none=>none
theorem S5:∀{l:List (Nat×Operand)} {vs:List (Nat×RS)},S2 fr l=some vs→evs (ifr c fr).ev l=ivp c vs
 | [],vs,he=>by simp only[S2,Option.some.injEq]at he;subst he;rfl
 |(j,x)::l,vs,he=>by
  simp only[S2]at he;split at he
  ·rename_i v hv
   split at he
   ·rename_i vs' hvs
    injection he with he;subst he;have:=S5 hvs;simp only[evs,ivp,List.map_cons,A5 hv]at this⊢;rw[this]
   ·cases he
  ·cases he
theorem S6(hf:wfr n fr):∀{l:List (Nat×Operand)} {vs:List (Nat×RS)},S2 fr l=some vs→∀p∈vs,p.2.wf n
 | [],vs,he=>by simp only[S2,Option.some.injEq]at he;subst he;exact fun p hp=>by cases hp
 |(j,x)::l,vs,he=>by
  simp only[S2]at he;split at he
  ·rename_i v hv
   split at he
   ·rename_i vs' hvs
    injection he with he;subst he;intro p hp;rcases List.mem_cons.1 hp with rfl|hp
    ·exact Bp hf hv
    ·exact S6 hf hvs p hp
   ·cases he
  ·cases he
end
def lim:IntKind→Nat
 | .i8| .u8=>256
 | .i16| .u16=>65536
 | .i32| .u32=>4294967296
 | .i64| .u64=>18446744073709551616
def half:IntKind→Nat
 | .i8=>128
 | .u8=>256
 | .i16=>32768
 | .u16=>65536
 | .i32=>2147483648
 | .u32=>4294967296
 | .i64=>9223372036854775808
 | .u64=>18446744073709551616
def wr(k:IntKind)(r:Nat):Int:=match Nat.blt r (half k)with
 |true=>.ofNat r
 |false=>Int.subNatNat r (lim k)
def Hk(k:IntKind):Int→Int
 | .ofNat m=>wr k (m % lim k)
 | .negSucc m=>wr k (lim k-1-m % lim k)
theorem Aj4(k:IntKind)(r:Nat)(n:Int)(h:(r:Int)=n %(lim k:Int)):wr k r=k.wrap n:=by
 unfold wr;rw[IntKind.wrap];cases hb:Nat.blt r (half k)with
 |true=>
  rw[A1]at hb;simp only;cases k<;>simp only[half,lim,IntKind.bits,IntKind.signed,Int.ofNat_eq_natCast]at hb h⊢ <;>simp<;>omega
 |false=>
  have hb':¬r<half k:=fun h=>by rw[←A1,hb]at h;cases h
  simp only[Int.subNatNat_eq_coe];cases k<;>simp only[half,lim,IntKind.bits,IntKind.signed]at hb' h⊢ <;>simp<;>omega
theorem Ct(k:IntKind)(n:Int):Hk k n=k.wrap n:=by
 cases n with
 |ofNat m=>
  refine Aj4 k _ _ ?_;simp
 |negSucc m=>
  refine Aj4 k _ _ ?_;have:0<lim k:=by cases k<;>decide
  have h2:m % lim k<lim k:=Nat.mod_lt _ this;have e:(Int.negSucc m)%(lim k:Int)=(lim k:Int)-1-((m % lim k:Nat):Int):=by
   rw[Int.negSucc_emod _ (by omega)];simp
  rw[e];omega
def ieq:Int→Int→Bool
 | .ofNat a,.ofNat b=>Nat.beq a b
 | .negSucc a,.negSucc b=>Nat.beq a b
 |_,_=>false
def ilt:Int→Int→Bool
 | .ofNat a,.ofNat b=>Nat.blt a b
 | .negSucc a,.negSucc b=>Nat.blt b a
 | .negSucc _,.ofNat _=>true
 | .ofNat _,.negSucc _=>false
theorem Ox{b:Bool}{p:Prop}[Decidable p](h:b=true↔p):b=decide p:=by
 cases b with
 |true=>exact(decide_eq_true (h.1 rfl)).symm
 |false=>exact(decide_eq_false fun hp=>by have:=h.2 hp;cases this).symm
theorem M6(a b:Int):ieq a b=decide (a=b):=Ox (by
 cases a<;>cases b<;>simp only[ieq,Aq,Int.ofNat_eq_natCast,Bool.false_eq_true,false_iff,true_iff]<;>omega)
theorem Xr(a b:Int):ilt a b=decide (a<b):=Ox (by
 cases a<;>cases b<;>simp only[ilt,A1,Int.ofNat_eq_natCast,Bool.false_eq_true,false_iff,true_iff]<;>omega)
theorem Z5(a b:Int):(!ilt a b)=decide (b≤a):=by
 rw[Xr];by_cases h:a<b
 ·rw[decide_eq_true h,decide_eq_false (by omega)];rfl
 ·rw[decide_eq_false h,decide_eq_true (by omega)];rfl
def H2(op:BinOp)(k:IntKind)(x y:Int):Option Value:=match op with
 | .add=>some (.int k (Hk k (x+y)))
 | .sub=>some (.int k (Hk k (x-y)))
 | .mul=>some (.int k (Hk k (x*y)))
 | .quo=>gd (!ieq y 0) (some (.int k (Hk k (x.tdiv y))))
 | .rem=>gd (!ieq y 0) (some (.int k (x.tmod y)))
 | .eql=>some (.bool (ieq x y))
 | .neq=>some (.bool (!ieq x y))
 | .lss=>some (.bool (ilt x y))
 | .leq=>some (.bool (!ilt y x))
 | .gtr=>some (.bool (ilt y x))
 | .geq=>some (.bool (!ilt x y))
 | .shl=>match y with
  | .ofNat m=>some (.int k (Hk k (x*((2^min m k.bits:Nat):Int))))
  | .negSucc _=>none
 | .shr=>match y with
  | .ofNat m=>some (.int k (x.fdiv ((2^min m k.bits:Nat):Int)))
  | .negSucc _=>none
 | .and=>some (.int k (Hk k ((BitVec.ofInt k.bits x&&&BitVec.ofInt k.bits y).toNat:Int)))
 | .or=>some (.int k (Hk k ((BitVec.ofInt k.bits x|||BitVec.ofInt k.bits y).toNat:Int)))
 | .xor=>some (.int k (Hk k ((BitVec.ofInt k.bits x^^^BitVec.ofInt k.bits y).toNat:Int)))
 | .andNot=>some (.int k (Hk k ((BitVec.ofInt k.bits x&&& ~~~BitVec.ofInt k.bits y).toNat:Int)))
section
variable{K:AV→Prop}
theorem Agk{op:BinOp}{k:IntKind}{x y:Int}{v:Value}(he:H2 op k x y=some v)(hk:K (.v v)):D9 op k x y K:=by
 cases op with
 |add=>simp only[H2,Option.some.injEq]at he;subst he;rw[Ct]at hk;exact hk
 |sub=>simp only[H2,Option.some.injEq]at he;subst he;rw[Ct]at hk;exact hk
 |mul=>simp only[H2,Option.some.injEq]at he;subst he;rw[Ct]at hk;exact hk
 |and=>simp only[H2,Option.some.injEq]at he;subst he;rw[Ct]at hk;exact hk
 |or=>simp only[H2,Option.some.injEq]at he;subst he;rw[Ct]at hk;exact hk
 |xor=>simp only[H2,Option.some.injEq]at he;subst he;rw[Ct]at hk;exact hk
 |andNot=>simp only[H2,Option.some.injEq]at he;subst he;rw[Ct]at hk;exact hk
 |quo=>
  simp only[H2,Ah,M6,Option.some.injEq]at he;obtain⟨h1,rfl⟩:=he;rw[Ct]at hk;exact⟨by simpa using h1,hk⟩
 |rem=>
  simp only[H2,Ah,M6,Option.some.injEq]at he;obtain⟨h1,rfl⟩:=he;exact⟨by simpa using h1,hk⟩
 |eql=>simp only[H2,Option.some.injEq]at he;subst he;rw[M6]at hk;exact hk
 |neq=>simp only[H2,Option.some.injEq]at he;subst he;rw[M6]at hk;simpa only[D9,ne_eq,decide_not]using hk
 |lss=>simp only[H2,Option.some.injEq]at he;subst he;rw[Xr]at hk;exact hk
 |leq=>simp only[H2,Option.some.injEq]at he;subst he;rw[Z5]at hk;exact hk
 |gtr=>simp only[H2,Option.some.injEq]at he;subst he;rw[Xr]at hk;exact hk
 |geq=>simp only[H2,Option.some.injEq]at he;subst he;rw[Z5]at hk;exact hk
 |shl=>
  simp only[H2]at he;cases y with
  |ofNat m=>
   simp only[Option.some.injEq]at he;subst he;rw[Ct]at hk;simp only[D9,Int.ofNat_eq_natCast,Int.toNat_natCast];refine⟨by omega,?_⟩;simpa using hk
  |negSucc m=>cases he
 |shr=>
  simp only[H2]at he;cases y with
  |ofNat m=>
   simp only[Option.some.injEq]at he;subst he;simp only[D9,Int.ofNat_eq_natCast,Int.toNat_natCast];refine⟨by omega,?_⟩;simpa using hk
  |negSucc m=>cases he
def N0:List UInt8→List UInt8→Bool
 | [],[]=>true
 |a::x,b::y=>match Nat.beq a.toNat b.toNat with
  |true=>N0 x y
  |false=>false
 |_,_=>false
def Sx:List UInt8→List UInt8→Bool
 |_,[]=>false
 | [],_::_=>true
 |a::x,b::y=>match Nat.blt a.toNat b.toNat with
  |true=>true
  |false=>match Nat.beq a.toNat b.toNat with
   |true=>Sx x y
   |false=>false
theorem Ou:∀{x y:List UInt8},N0 x y=true↔x=y
 | [],[]=>by simp[N0]
 | [],_::_=>by simp[N0]
 |_::_,[]=>by simp[N0]
 |a::x,b::y=>by
  simp only[N0];cases hb:Nat.beq a.toNat b.toNat with
  |true=>
   rw[Aq]at hb;have hab:a=b:=UInt8.toNat_inj.1 hb;simp only[Ou (x:=x),hab,List.cons.injEq,true_and]
  |false=>
   have hab:a≠b:=fun e=>by subst e;rw[Nat.beq_refl]at hb;cases hb
   simp[hab]
theorem Lg:∀(x y:List UInt8),Sx x y=Op.bytesLess x y
 | [],[]=>by simp only[Sx,Op.bytesLess]
 |_::_,[]=>by simp only[Sx,Op.bytesLess]
 | [],_::_=>by simp only[Sx,Op.bytesLess]
 |a::x,b::y=>by
  simp only[Sx,Op.bytesLess];cases hl:Nat.blt a.toNat b.toNat with
  |true=>
   rw[A1]at hl;have:a<b:=UInt8.lt_iff_toNat_lt.2 hl;simp[this]
  |false=>
   have hl':¬a<b:=fun h=>by
    have:=A1.2 (UInt8.lt_iff_toNat_lt.1 h);rw[hl]at this;cases this
   cases hb:Nat.beq a.toNat b.toNat with
   |true=>
    rw[Aq]at hb;have hab:a=b:=UInt8.toNat_inj.1 hb;simp[hl',hab,Lg x y]
   |false=>
    have hab:a≠b:=fun e=>by subst e;rw[Nat.beq_refl]at hb;cases hb
    simp[hl',hab]
theorem Y3{x y:ByteArray}:x=y↔x.data.toList=y.data.toList:=by
 cases x;cases y
 simp[ByteArray.mk.injEq,Array.toList_inj]
theorem N6(x:ByteArray):x.toList=x.data.toList:=by
 exact ByteArray.toList_eq x
def S9(op:BinOp)(x y:List UInt8):Option Value:=match op with
 | .add=>gd (Nat.ble (x.length+y.length) 9223372036854775807) (some (.string ⟨(x++y).toArray⟩))
 | .eql=>some (.bool (N0 x y))
 | .neq=>some (.bool (!N0 x y))
 | .lss=>some (.bool (Sx x y))
 | .leq=>some (.bool (Sx x y||N0 x y))
 | .gtr=>some (.bool (!(Sx x y||N0 x y)))
 | .geq=>some (.bool (!Sx x y))
 |_=>none
theorem It(x y:ByteArray):N0 x.data.toList y.data.toList=decide (x=y):=Ox (by rw[Ou,←Y3])
theorem Akc(x y:ByteArray):(⟨(x.data.toList++y.data.toList).toArray⟩:ByteArray)=x++y:=Y3.2 (by simp)
theorem Agu{op:BinOp}{x y:ByteArray}{v:Value}(he:S9 op x.data.toList y.data.toList=some v)(hk:K (.v v)):Iq op x y K:=by
 cases op with
 |add=>
  simp only[S9,Ah,Bf,Option.some.injEq]at he;obtain⟨h1,rfl⟩:=he;rw[Akc]at hk;exact⟨by simpa only[Array.length_toList,ByteArray.size]using h1,hk⟩
 |eql=>simp only[S9,Option.some.injEq]at he;subst he;rw[It]at hk;exact hk
 |neq=>simp only[S9,Option.some.injEq]at he;subst he;rw[It]at hk;simpa only[Iq,ne_eq,decide_not]using hk
 |lss=>simp only[S9,Option.some.injEq]at he;subst he;rw[Lg]at hk;simpa only[Iq,N6]using hk
 |leq=>simp only[S9,Option.some.injEq]at he;subst he;rw[Lg,It]at hk;simpa only[Iq,N6]using hk
 |gtr=>simp only[S9,Option.some.injEq]at he;subst he;rw[Lg,It]at hk;simpa only[Iq,N6]using hk
 |geq=>simp only[S9,Option.some.injEq]at he;subst he;rw[Lg]at hk;simpa only[Iq,N6]using hk
 |_=>cases he
end
structure TE where
 k:TK
 sl:Bool
 ptr:Bool
 fn:Bool
 mp:Bool
 bl:Bool
 cc:Bool
 lv:Option (List Co)
structure Eg(P:Program)(t:TypeId)(e:TE):Prop where
 k:tk P t=some e.k
 sl:Du P t=e.sl
 ptr:Df P t=e.ptr
 fn:isFn P t=e.fn
 mp:Ps P t=e.mp
 bl:M8 P t=e.bl
 cc:I6 P t=e.cc
 lv:∀ls,e.lv=some ls→Lf P t=true∧P.eqGuardType P.depth t=false∧Eb P 9 t=some ls
def Sc:List RS→Option (List Value)
 | []=>some []
 | .v x::l=>match Sc l with
  |some vs=>some (x::vs)
  |none=>none
 |_=>none
def Od:Value→Value→Bool
 | .bool a,.bool b=>match a with
  |true=>b
  |false=>!b
 | .int _ a,.int _ b=>ieq a b
 | .string a,.string b=>N0 a.data.toList b.data.toList
 |_,_=>true
def eqLF:List Value→List Value→Bool
 |x::xs,y::ys=>match Od x y with
  |true=>eqLF xs ys
  |false=>false
 |_,_=>true
def Iz:List Co→List Value→Bool
 | [],[]=>true
 | .b::ls,.bool _::vs=>Iz ls vs
 | .s::ls,.string _::vs=>Iz ls vs
 | .i k::ls,.int k' _::vs=>match decide (k=k')with
  |true=>Iz ls vs
  |false=>false
 |_,_=>false
theorem Xl(x y:Value):Od x y=Fh x y:=by
 cases x<;>cases y<;>try rfl
 ·rename_i a b;cases a<;>cases b<;>rfl
 ·simp only[Od,Fh,M6]
 ·simp only[Od,Fh,It]
theorem Zr:∀(xs ys:List Value),eqLF xs ys=eqL xs ys
 | [],[]=>rfl
 | [],_::_=>rfl
 |_::_,[]=>rfl
 |x::xs,y::ys=>by
  simp only[eqLF,eqL,Xl,Zr xs ys];cases Fh x y<;>rfl
theorem Lw:∀{ls:List Co} {vs:List Value},Iz ls vs=true→Fit ls vs=true
 | [],[],_=>rfl
 | .b::ls,.bool _::vs,h=>by simp only[Iz]at h;simp[Fit,Co.ok,Lw h]
 | .s::ls,.string _::vs,h=>by simp only[Iz]at h;simp[Fit,Co.ok,Lw h]
 | .i k::ls,.int k' _::vs,h=>by
  simp only[Iz]at h;split at h
  ·rename_i hk;simp[Fit,Co.ok,Lw h,hk]
  ·cases h
 | [],_::_,h=>by simp[Iz]at h
 |l::_,[],h=>by cases l<;>simp[Iz]at h
 | .b::_,.int _ _::_,h=>by simp[Iz]at h
 | .b::_,.string _::_,h=>by simp[Iz]at h
 | .s::_,.bool _::_,h=>by simp[Iz]at h
 | .s::_,.int _ _::_,h=>by simp[Iz]at h
 | .i _::_,.bool _::_,h=>by simp[Iz]at h
 | .i _::_,.string _::_,h=>by simp[Iz]at h
section
variable{P:Program}{σ0 σ:St}{c c':Cx}{h h':Sto}{n:Nat}{fr:Tr RS}{v:RS}{K:AV→Prop}{k:AV→St→Prop}
theorem Qp:∀{l:List RS} {vs:List Value},Sc l=some vs→N4 (RS.ivs c l)=some vs
 | [],vs,he=>by simp only[Sc,Option.some.injEq]at he;subst he;rfl
 | .v x::l,vs,he=>by
  simp only[Sc]at he;split at he
  ·rename_i vs' hv
   injection he with he;subst he;simp only[RS.ivs,RS.iv,RS.vv,N4,Qp hv,Option.map_some]
  ·cases he
def eEqv(neg:Bool)(te:TE):RS→RS→Option Bool
 | .v (.bool a),.v (.bool b)=>gd te.bl (some (match neg,a with|true,true=>!b|true,false=>b|false,true=>b|false,false=>!b))
 | .v (.pointer p),.v (.pointer none)=>gd te.ptr (some (match neg with|true=>p.isSome|false=>p.isNone))
 | .ptr _ _,.v (.pointer none)=>gd te.ptr (some neg)
 | .v (.pointer none),.ptr _ _=>gd te.ptr (some neg)
 | .fp _,.v (.pointer none)=>gd te.ptr (some neg)
 | .rp _ _ _ _,.v (.pointer none)=>gd te.ptr (some neg)
 | .v (.slice a _ _),.v (.slice none 0 0)=>gd te.sl (some (match neg with|true=>a.isSome|false=>a.isNone))
 | .row _ _,.v (.slice none 0 0)=>gd te.sl (some neg)
 | .part _ _ _ _,.v (.slice none 0 0)=>gd te.sl (some neg)
 | .mt _ _ _,.v (.slice none 0 0)=>gd te.sl (some neg)
 | .sl _ (_::_),.v (.slice none 0 0)=>gd te.sl (some neg)
 | .fsl _ (_::_),.v (.slice none 0 0)=>gd te.sl (some neg)
 | .v (.map m),.v (.map none)=>gd te.mp (some (match neg with|true=>m.isSome|false=>m.isNone))
 | .mp _,.v (.map none)=>gd te.mp (some neg)
 | .fn _ _ _,.v .nilFunc=>gd te.fn (some neg)
 | .yld _,.v .nilFunc=>gd te.fn (some neg)
 | .v .nilFunc,.v .nilFunc=>gd te.fn (some (!neg))
 |_,_=>none
def eAgg(neg:Bool)(te:TE)(xs ys:List RS):Option Bool:=match te.lv with
 |some ls=>match Sc xs with
  |some vs=>match Sc ys with
   |some ws=>gd (Iz ls vs&&Iz ls ws) (some (match neg with|true=>!eqLF vs ws|false=>eqLF vs ws))
   |none=>none
  |none=>none
 |none=>none
def eEq2(neg:Bool)(te:TE):RS→RS→Option Bool
 | .agg xs,.agg ys=>eAgg neg te xs ys
 |x,y=>eEqv neg te x y
def eBin(op:BinOp)(te:TE):RS→RS→Option RS
 | .v (.int k a),.v (.int k' b)=>match decide (k=k')||isSh op with
  |true=>match H2 op k a b with
   |some v=>some (.v v)
   |none=>none
  |false=>none
 | .v (.string a),.v (.string b)=>match S9 op a.data.toList b.data.toList with
  |some v=>some (.v v)
  |none=>none
 |x,y=>match op with
  | .eql=>match eEq2 false te x y with
   |some b=>some (.v (.bool b))
   |none=>none
  | .neq=>match eEq2 true te x y with
   |some b=>some (.v (.bool b))
   |none=>none
  |_=>none
theorem Agc{t:TypeId}{te:TE}(ht:Eg P t te){neg:Bool}{x y:RS}{b:Bool}(he:eEqv neg te x y=some b)(hk:K (.v (.bool b))):
  (∀op,op=(if neg then BinOp.neq else .eql)→C2 P op t (x.iv c) (y.iv c) K):=by
 rintro op rfl;unfold eEqv at he
 split at he<;>first
  |(cases he;done)
  |(rw[Ah]at he
    obtain⟨hf,he⟩:=he;injection he with he;subst he
    cases neg<;>first
     |(refine⟨ht.bl.trans hf,?_⟩;rename_i a b;cases a<;>cases b<;>exact hk)
     |exact⟨ht.ptr.trans hf,hk⟩
     |exact⟨ht.sl.trans hf,hk⟩
     |exact⟨ht.mp.trans hf,hk⟩
     |exact⟨ht.fn.trans hf,hk⟩
     |(refine⟨ht.sl.trans hf,fun _=>hk,fun h=>?_⟩;simp only[RS.ivss]at h;cases h))
theorem Af7{t:TypeId}{te:TE}(ht:Eg P t te){neg:Bool}{xs ys:List RS}{b:Bool}(he:eAgg neg te xs ys=some b)(hk:K (.v (.bool b))):Nw P neg t (.agg (RS.ivs c xs)) (.agg (RS.ivs c ys)) K:=by
 unfold eAgg at he;split at he
 ·rename_i ls hls
  split at he
  ·rename_i vs hvs
   split at he
   ·rename_i ws hws
    rw[Ah,Bool.and_eq_true]at he;obtain⟨hf,he⟩:=he;injection he with he;subst he;obtain⟨h1,h2,h3⟩:=ht.lv ls hls;refine⟨h1,h2,_,_,vs,ws,ls,rfl,rfl,Qp hvs,Qp hws,h3,Lw hf.1,Lw hf.2,?_⟩;rw[Zr]at hk;cases neg<;>exact hk
   ·cases he
  ·cases he
 ·cases he
theorem Zo{t:TypeId}{te:TE}(ht:Eg P t te){neg:Bool}{x y:RS}{b:Bool}(he:eEq2 neg te x y=some b)(hk:K (.v (.bool b))):
  (∀op,op=(if neg then BinOp.neq else .eql)→C2 P op t (x.iv c) (y.iv c) K):=by
 unfold eEq2 at he;split at he
 ·rintro op rfl
  have:=Af7 (c:=c) ht he hk;cases neg<;>exact this
 ·exact Agc ht he hk
theorem Af9{op:BinOp}{t:TypeId}{te:TE}(ht:Eg P t te){x y:RS}(he:eBin op te x y=some v)(hk:K (v.iv c)):C2 P op t (x.iv c) (y.iv c) K:=by
 unfold eBin at he;split at he
 ·rename_i k a k' b
  split at he
  ·rename_i hkk
   have hkk:k=k'∨isSh op=true:=by
    rcases Bool.or_eq_true _ _▸hkk with h|h
    ·exact .inl (of_decide_eq_true h)
    ·exact .inr h
   split at he
   ·rename_i w hw
    injection he with he;subst he;simp only[RS.iv,RS.vv]at hk⊢;exact⟨hkk,Agk hw hk⟩
   ·cases he
  ·cases he
 ·rename_i a b
  split at he
  ·rename_i w hw
   injection he with he;subst he;simp only[RS.iv,RS.vv]at hk⊢;exact Agu hw hk
  ·cases he
 ·split at he
  ·split at he
   ·rename_i b hb
    injection he with he;subst he;simp only[RS.iv,RS.vv]at hk;exact Zo ht hb hk _ rfl
   ·cases he
  ·split at he
   ·rename_i b hb
    injection he with he;subst he;simp only[RS.iv,RS.vv]at hk;exact Zo ht hb hk _ rfl
   ·cases he
  ·cases he
theorem Aga{op:BinOp}{te:TE}{x y:RS}(he:eBin op te x y=some v):v.wf n:=by
 unfold eBin at he;split at he
 ·split at he
  ·split at he
   ·injection he with he;subst he;simp only[RS.wf]
   ·cases he
  ·cases he
 ·split at he
  ·injection he with he;subst he;simp only[RS.wf]
  ·cases he
 ·split at he
  ·split at he
   ·injection he with he;subst he;simp only[RS.wf]
   ·cases he
  ·split at he
   ·injection he with he;subst he;simp only[RS.wf]
   ·cases he
  ·cases he
def eUn(op:UnOp)(x:RS):Option RS:=match op,x with
 | .not,.v (.bool b)=>some (.v (.bool (!b)))
 | .neg,.v (.int ik m)=>some (.v (.int ik (Hk ik (0-m))))
 | .xor,.v (.int ik m)=>some (.v (.int ik (Hk ik ((BitVec.ofInt ik.bits (if ik.signed then-1 else ik.max)^^^BitVec.ofInt ik.bits m).toNat:Int))))
 |_,_=>none
theorem Akh{op:UnOp}{x:RS}(he:eUn op x=some v)(hk:K (v.iv c)):aUn op (x.iv c) K:=by
 unfold eUn at he;split at he
 ·injection he with he;subst he;simpa only[RS.iv,RS.vv,aUn]using hk
 ·injection he with he;subst he;rw[Ct]at hk;simpa only[RS.iv,RS.vv,aUn]using hk
 ·injection he with he;subst he;rw[Ct]at hk;simpa only[RS.iv,RS.vv,aUn]using hk
 ·cases he
theorem Aki{op:UnOp}{x:RS}(he:eUn op x=some v):v.wf n:=by
 unfold eUn at he;split at he
 ·injection he with he;subst he;simp only[RS.wf]
 ·injection he with he;subst he;simp only[RS.wf]
 ·injection he with he;subst he;simp only[RS.wf]
 ·cases he
end
section
variable{P:Program}{σ0 σ:St}{c c':Cx}{h h':Sto}{n:Nat}{fr:Tr RS}{v:RS}{K:AV→Prop}{k:AV→St→Prop}
def Kh(d:Nat):Option RS→Option Nat
 |none=>some d
 |some x=>eNat x
theorem Fc{d:Nat}{x:Option RS}{j:Nat}(he:Kh d x=some j):Ho (d:Int) (x.map (RS.iv c))=some (j:Int):=by
 cases x with
 |none=>simp only[Kh,Option.some.injEq]at he;subst he;rfl
 |some x=>
  obtain⟨ik,rfl⟩:=Ls he;simp only[Option.map_some,RS.iv,RS.vv,Ho]
def Nb(b q l0 l r:Nat):RS:=match Nat.beq (l0+l) 0 with
 |true=>.row b r
 |false=>match Nat.blt l r with
  |true=>.part b q (l0+l) (r-l)
  |false=>.mt b (fun m=>Fl (m-l0) l (l0*q) q) (fun m=>m-l0-l)
theorem Ru{b q l0 l r:Nat}(hl:l≤r)(hr:l0+r≤c.k b):(Nb b q l0 l r).iv c= .v (.slice (some ⟨c.r b,Fl (c.k b-l0) l (l0*q) q,none⟩) (r-l) (c.k b-l0-l)):=by
 unfold Nb;cases h1:Nat.beq (l0+l) 0 with
 |true=>
  rw[Aq]at h1;obtain rfl:l0=0:=by omega
  obtain rfl:l=0:=by omega
  simp only[RS.iv,RS.vv,Fl,Nat.zero_mul,Nat.add_zero,Nat.sub_zero,ite_self]
 |false=>
  cases h2:Nat.blt l r with
  |true=>
   rw[A1]at h2;simp only[RS.iv,RS.vv,Fl];rw[if_neg (by omega),←Nat.add_mul,Nat.sub_sub]
  |false=>
   have h3:¬l<r:=fun h=>by rw[←A1,h2]at h;cases h
   obtain rfl:l=r:=by omega
   simp only[RS.iv,RS.vv,Nat.sub_self]
theorem Rv{b q l0 l r:Nat}(hb:b<n):(Nb b q l0 l r).wf n:=by
 unfold Nb;split
 ·simp only[RS.wf];exact hb
 ·split<;>(simp only[RS.wf];exact hb)
def Vj(q:Nat):RS→Option (List (List RS))
 | .sl q' es=>gd (Nat.beq q' q) (some es)
 | .fsl q' es=>gd (Nat.beq q' q) (some es)
 | .v (.slice none 0 0)=>some []
 |_=>none
theorem Adl{q:Nat}{x:RS}{es:List (List RS)}(he:Vj q x=some es):view q σ (x.iv c)=some (RS.ivss c es):=by
 unfold Vj at he;split at he
 ·rw[Ah,Aq]at he;obtain⟨rfl,he⟩:=he;injection he with he;subst he;simp only[RS.iv,view,if_true]
 ·rw[Ah,Aq]at he;obtain⟨rfl,he⟩:=he;injection he with he;subst he;simp only[RS.iv,view,if_true]
 ·injection he with he;subst he;rfl
 ·cases he
theorem Adm{q:Nat}{x:RS}{es:List (List RS)}(hx:x.wf n)(he:Vj q x=some es):RS.wfss n es:=by
 unfold Vj at he;split at he
 ·rw[Ah]at he;have he:=he.2;injection he with he;subst he;simpa only[RS.wf]using hx
 ·rw[Ah]at he;have he:=he.2;injection he with he;subst he;simpa only[RS.wf]using hx
 ·injection he with he;subst he;simp only[RS.wfss]
 ·cases he
def eSli(i:TK)(h:Sto)(x:RS)(lo hi mx:Option RS):Option RS:=match i.td with
 | .str=>match x,mx with
  | .v (.string s),none=>match Kh 0 lo,Kh s.data.toList.length hi with
   |some l,some r=>gd (Nat.ble l r&&Nat.ble r s.data.toList.length) (some (.v (.string ⟨((s.data.toList.take r).drop l).toArray⟩)))
   |_,_=>none
  |_,_=>none
 | .sl q _ _ _=>match x,mx with
  | .row b n,none=>match Kh 0 lo,Kh n hi with
   |some l,some r=>gd (Nat.ble l r&&Nat.ble r n&&Nat.ble n (h.get b).len) (some (Nb b q 0 l r))
   |_,_=>none
  | .part b q' l0 n,none=>match Kh 0 lo,Kh n hi with
   |some l,some r=>gd (Nat.ble l r&&Nat.ble r n&&Nat.ble (l0+n) (h.get b).len&&Nat.beq q' q) (some (Nb b q l0 l r))
   |_,_=>none
  |x,none=>match Vj q x with
   |some es=>match Kh 0 lo,Kh es.length hi with
    |some l,some r=>gd (Nat.ble l r&&Nat.ble r es.length) (some (.sl q ((es.take r).drop l)))
    |_,_=>none
   |none=>none
  |_,_=>none
 |_=>none
theorem Akd(s:ByteArray)(l r:Nat)(h:r≤s.size):(⟨((s.data.toList.take r).drop l).toArray⟩:ByteArray)=s.extract l r:=Y3.2 (by
 simp[ByteArray.extract,ByteArray.copySlice,List.drop_take])
theorem Agq(hM:Mt σ0 c h σ){i:TK}{x:RS}{lo hi mx:Option RS}(hx:x.wf h.n)(he:eSli i h x lo hi mx=some v)(hk:K (v.iv c)):
  aSli (some i) σ (x.iv c) (lo.map (RS.iv c)) (hi.map (RS.iv c)) (mx.map (RS.iv c)) K:=by
 unfold eSli at he;simp only[aSli];split at he
 ·rename_i htd
  simp only[htd];split at he
  ·rename_i s
   split at he
   ·rename_i l r hl hr
    simp only[Ah,Bool.and_eq_true,Bf,Option.some.injEq]at he;obtain⟨⟨h1,h2⟩,rfl⟩:=he;have hsz:s.data.toList.length=s.size:=Array.length_toList;rw[hsz]at h2;simp only[RS.iv,RS.vv]at hk⊢;rw[Akd s l r h2]at hk;have h3:=Fc (c:=c) hl;have h4:=Fc (c:=c) hr;rw[hsz]at h4;exact⟨rfl,l,r,h3,h4,by omega,by omega,by omega,by simpa using hk⟩
   ·cases he
  ·cases he
 ·rename_i q eby ez byt htd
  simp only[htd];split at he
  ·rename_i b n
   split at he
   ·rename_i l r hl hr
    simp only[Ah,Bool.and_eq_true,Bf,Option.some.injEq]at he;obtain⟨⟨⟨h1,h2⟩,h3⟩,rfl⟩:=he;have hb:b<h.n:=by simpa only[RS.wf]using hx
    have hc:=hM.cap b hb;rw[Ru h1 (by omega)]at hk;refine .inl ⟨c.r b,0,n,c.k b,by simp only[RS.iv,RS.vv],(l:Int),(r:Int),(c.k b:Int),Fc hl,Fc hr,.inl ⟨rfl,rfl⟩,by omega,by omega,by omega,by omega,?_⟩;simpa only[Int.toNat_natCast,Nat.sub_zero,Nat.zero_mul]using hk
   ·cases he
  ·rename_i b q' l0 n
   split at he
   ·rename_i l r hl hr
    simp only[Ah,Bool.and_eq_true,Bf,Aq,Option.some.injEq]at he;obtain⟨⟨⟨⟨h1,h2⟩,h3⟩,rfl⟩,rfl⟩:=he;have hb:b<h.n:=by simpa only[RS.wf]using hx
    have hc:=hM.cap b hb;rw[Ru h1 (by omega)]at hk;refine .inl ⟨c.r b,l0*q',n,c.k b-l0,by simp only[RS.iv,RS.vv],(l:Int),(r:Int),((c.k b-l0:Nat):Int),Fc hl,Fc hr,.inl ⟨rfl,rfl⟩,by omega,by omega,by omega,by omega,?_⟩;simpa only[Int.toNat_natCast]using hk
   ·cases he
  ·split at he
   ·rename_i es hes
    split at he
    ·rename_i l r hl hr
     simp only[Ah,Bool.and_eq_true,Bf,Option.some.injEq]at he;obtain⟨⟨h1,h2⟩,rfl⟩:=he;refine .inr ⟨RS.ivss c es,Adl hes,(l:Int),(r:Int),Fc hl,by rw[Be];exact Fc hr,by omega,by omega,by rw[Be];omega,.inl ⟨rfl,?_⟩⟩;simp only[RS.iv,Int.toNat_natCast,Fw,Jt]at hk⊢;exact hk
    ·cases he
   ·cases he
  ·cases he
 ·cases he
theorem Agr{i:TK}{x:RS}{lo hi mx:Option RS}(hx:x.wf n)(he:eSli i h x lo hi mx=some v):v.wf n:=by
 unfold eSli at he;split at he
 ·split at he
  ·split at he
   ·simp only[Ah,Option.some.injEq]at he
    obtain⟨_,rfl⟩:=he;simp only[RS.wf]
   ·cases he
  ·cases he
 ·split at he
  ·split at he
   ·simp only[Ah,Option.some.injEq]at he
    obtain⟨_,rfl⟩:=he;exact Rv (by simpa only[RS.wf]using hx)
   ·cases he
  ·split at he
   ·simp only[Ah,Option.some.injEq]at he
    obtain⟨_,rfl⟩:=he;exact Rv (by simpa only[RS.wf]using hx)
   ·cases he
  ·split at he
   ·rename_i es hes
    split at he
    ·simp only[Ah,Option.some.injEq]at he
     obtain⟨_,rfl⟩:=he;simp only[RS.wf];exact J6 _ (Hv _ (Adm hx hes))
    ·cases he
   ·cases he
  ·cases he
 ·cases he
def Ve(fn:Fn)(fi ca:List RS):Option RS:=match fn with
 | .func f=>gd (fi.all RS.isV&&ca.all RS.isV) (some (.fn f fi ca))
 |_=>none
theorem M2{ev:Operand→AV}:∀{l:List Operand} {vs:List RS},l.map ev=vs.map (RS.iv c)→vs.all RS.isV=true→B7 ev l=some (RS.vvs c vs)
 | [],[],_,_=>rfl
 |x::l,v::vs,h,hv=>by
  simp only[List.map_cons,List.cons.injEq]at h;simp only[List.all_cons,Bool.and_eq_true]at hv;simp only[B7,h.1,Gj hv.1,M2 h.2 hv.2,RS.vvs]
 | [],_::_,h,_=>by simp at h
 |_::_,[],h,_=>by simp at h
theorem Ac7{ev:Operand→AV}{fn:Fn}{l m:List Operand}{fi ca:List RS}(hl:l.map ev=fi.map (RS.iv c))(hm:m.map ev=ca.map (RS.iv c))(he:Ve fn fi ca=some v)(hk:K (v.iv c)):Dx fn ev l m K:=by
 unfold Ve at he;split at he
 ·rw[Ah,Bool.and_eq_true]at he
  obtain⟨hf,he⟩:=he;injection he with he;subst he;simp only[Dx,M2 hl hf.1,M2 hm hf.2];simpa only[RS.iv,RS.vv]using hk
 ·cases he
theorem Ac8{fn:Fn}{fi ca:List RS}(h1:RS.wfs n fi)(h2:RS.wfs n ca)(he:Ve fn fi ca=some v):v.wf n:=by
 unfold Ve at he;split at he
 ·rw[Ah]at he
  have he:=he.2;injection he with he;subst he;simp only[RS.wf];exact⟨h1,h2⟩
 ·cases he
def eMkI(te:TE)(t:TypeId)(x:RS):Option RS:=gd (te.cc&&x.isV) (some (.ifc t x))
theorem Agn{t:TypeId}{te:TE}(ht:Eg P t te){x:RS}(he:eMkI te t x=some v)(hk:K (v.iv c)):aMkI P t (x.iv c) K:=by
 unfold eMkI at he;rw[Ah,Bool.and_eq_true]at he;obtain⟨hf,he⟩:=he;injection he with he;subst he;refine⟨ht.cc.trans hf.1,?_⟩;rw[Gj hf.2];simpa only[RS.iv,RS.vv]using hk
def eTyA(te:TE)(u:TypeId)(x:RS):Option RS:=match x with
 | .ifc t y=>gd (te.cc&&y.isV&&Nat.beq t u) (some y)
 |_=>none
theorem Agv{u:TypeId}{te:TE}(ht:Eg P u te){x:RS}(he:eTyA te u x=some v)(hk:K (v.iv c)):aTyA P u (x.iv c) K:=by
 unfold eTyA at he;split at he
 ·rename_i t y
  rw[Ah,Bool.and_eq_true,Bool.and_eq_true,Aq]at he;obtain⟨⟨⟨h1,h2⟩,h3⟩,he⟩:=he;injection he with he;subst he;rw[Gj h2]at hk;simp only[RS.iv,RS.vv];exact⟨ht.cc.trans h1,h3,hk⟩
 ·cases he
def Oz:List (List RS)→Option (List UInt8)
 | []=>some []
 | [.v (.int .u8 (.ofNat m))]::l=>match Oz l with
  |some bs=>some (UInt8.ofNat m::bs)
  |none=>none
 |_=>none
theorem Q8:∀{es:List (List RS)} {bs:List UInt8},Oz es=some bs→(RS.ivss c es).all Kx=true∧(RS.ivss c es).map S0=bs
 | [],bs,he=>by simp only[Oz,Option.some.injEq]at he;subst he;exact⟨rfl,rfl⟩
 |e::l,bs,he=>by
  unfold Oz at he;split at he
  ·rename_i h;cases h
  ·rename_i m l' heq
   injection heq with h1 h2;subst h1;subst h2;split at he
   ·rename_i bs' hb
    injection he with he;subst he;obtain⟨g1,g2⟩:=Q8 (es:=l) hb;simp only[RS.ivss,RS.ivs,RS.iv,RS.vv,List.all_cons,Kx,g1,Bool.and_self,List.map_cons,S0,g2,Int.ofNat_eq_natCast,Int.toNat_natCast,and_self]
   ·cases he
  ·cases he
def Ade(q:Nat)(h:Sto):RS→Option (List (List RS))
 | .sl q' es=>gd (Nat.beq q' q) (some es)
 | .fsl q' es=>gd (Nat.beq q' q) (some es)
 | .v (.slice none 0 0)=>some []
 | .row b n=>match h.get b with
  | .rows q' es _=>gd (Nat.beq q' q&&Nat.ble n es.length) (some (es.take n))
  |_=>none
 |_=>none
theorem Adf(hM:Mt σ0 c h σ){q:Nat}{x:RS}{es:List (List RS)}(hx:x.wf h.n)(he:Ade q h x=some es):Ml q σ (x.iv c)=some (RS.ivss c es):=by
 unfold Ade at he;split at he
 ·rw[Ah,Aq]at he;obtain⟨rfl,he⟩:=he;injection he with he;subst he;simp only[RS.iv,Ml,if_true]
 ·rw[Ah,Aq]at he;obtain⟨rfl,he⟩:=he;injection he with he;subst he;simp only[RS.iv,Ml,if_true]
 ·injection he with he;subst he;rfl
 ·rename_i b n
  split at he
  ·rename_i q' es' frz hb
   rw[Ah,Bool.and_eq_true,Aq,Bf]at he;obtain⟨⟨rfl,h1⟩,he⟩:=he;injection he with he;subst he;have hbn:b<h.n:=by simpa only[RS.wf]using hx
   have h2:=hM.ob b (.rows q' (RS.ivss c es') frz (c.k b)) hbn (by rw[hb];rfl);have hc:=hM.cap b hbn;rw[hb]at hc;simp only[SO.len]at hc;simp only[RS.iv,RS.vv,Ml,h2,Be,Fw];rw[if_pos ⟨trivial,h1,by omega⟩]
  ·cases he
 ·cases he
def R3(b:UInt8):List RS:=[.v (.int .u8 (.ofNat b.toNat))]
theorem Wb(l:List UInt8):RS.ivss c (l.map R3)=l.map Gc:=by
 rw[Bs,List.map_map];refine List.map_congr_left fun b _=>?_;simp only[Function.comp,R3,RS.ivs,RS.iv,RS.vv,Gc,Int.ofNat_eq_natCast]
theorem Wc(n:Nat)(l:List UInt8):RS.wfss n (l.map R3):=Cb.2 fun x hx=>by
 obtain⟨b,_,rfl⟩:=List.mem_map.1 hx;simp only[R3,RS.wfs,RS.wf,and_self]
def Ac3(i j:TK)(h:Sto)(x:RS):Option (RS×Sto):=match i.td,j.td with
 | .int _,.int ik=>match x with
  | .v (.int _ m)=>some (.v (.int ik (Hk ik m)),h)
  |_=>none
 | .str,.str=>match x with
  | .v (.string s)=>some (.v (.string s),h)
  |_=>none
 | .str,.sl 1 _ _ true=>match x with
  | .v (.string s)=>match h.new (.rows 1 (s.data.toList.map R3) false)with
   |some (b,h')=>some (.row b s.data.toList.length,h')
   |none=>none
  |_=>none
 | .sl 1 _ _ true,.str=>match Ade 1 h x with
  |some es=>match Oz es with
   |some bs=>some (.v (.string ⟨bs.toArray⟩),h)
   |none=>none
  |none=>none
 |_,_=>none
def Kt(σ0:St)(c:Cx)(h:Sto)(v:RS)(h':Sto)(k:AV→St→Prop):Prop:=
 ∀c' σ',Dw h.n c c'→Mt σ0 c' h' σ'→h.n≤h'.n→Ih h h'→v.wf h'.n→k (v.iv c') σ'
theorem Kt.same(hM:Mt σ0 c h σ)(hk:Kt σ0 c h v h k)(hv:v.wf h.n):k (v.iv c) σ:=hk c σ (.refl _ _) hM (Nat.le_refl _) (.refl h) hv
theorem Kt.new(hM:Mt σ0 c h σ){o:SO}{i:Nat}(hn:h.new o=some (i,h'))(hw:o.wf h.n){b kk:Nat}{x:Bn}(hb:σ b=none)(hx:io (c.more h.n b kk) h.n o=some x)(hc:o.len≤kk)
  (hk:Kt σ0 c h v h' k) (hv:v.wf (h.n+1)):k (v.iv (c.more h.n b kk)) (σ.set b x):=by
 obtain⟨h1,h2,h3⟩:=hM.new hb hn hx hw hc;exact hk _ _ (Gm c h.n b kk) h3 (by omega) (.new hn) (by rw[h2];exact hv)
theorem Rx{o:SO}{i:Nat}(hn:h.new o=some (i,h')):i=h.n:=by
 unfold Sto.new at hn;rw[Ah]at hn;have:=hn.2;injection this with this;injection this with h1 h2;exact h1.symm
theorem Ac4(hM:Mt σ0 c h σ){i j:TK}{x:RS}(hx:x.wf h.n)(he:Ac3 i j h x=some (v,h'))(hk:Kt σ0 c h v h' k):Hd (some i) (some j) σ (x.iv c) k:=by
 unfold Ac3 at he;simp only[Hd];split at he
 ·rename_i htd htd2
  split at he
  ·injection he with he
   injection he with h1 h2;subst h1;subst h2;have:=hk.same hM (by simp only[RS.wf]);rw[Ct]at this;simpa only[htd,htd2,RS.iv,RS.vv]using this
  ·cases he
 ·rename_i htd htd2
  split at he
  ·injection he with he
   injection he with h1 h2;subst h1;subst h2;have:=hk.same hM (by simp only[RS.wf]);simpa only[htd,htd2,RS.iv,RS.vv]using this
  ·cases he
 ·rename_i eby ez htd htd2
  split at he
  ·rename_i s
   split at he
   ·rename_i b h2 hn
    injection he with he;injection he with h1 h3;subst h1;subst h3;simp only[htd,htd2,RS.iv,RS.vv];intro bb cap hbb hcap;have hsz:s.data.toList.length=s.size:=Array.length_toList;have hi:=Rx hn;subst hi;have:=Kt.new (kk:=cap) hM hn (Wc _ _) hbb (x:=.rows 1 (s.data.toList.map Gc) false cap) (by simp only[io,Wb,Cx.more,if_true]) (by simp only[SO.len,List.length_map];omega) hk (by simp only[RS.wf];omega);simp only[RS.iv,RS.vv,Cx.more,if_true,hsz]at this;exact this
   ·cases he
  ·cases he
 ·rename_i eby ez htd htd2
  split at he
  ·rename_i es hes
   split at he
   ·rename_i bs hbs
    injection he with he;injection he with h1 h3;subst h1;subst h3;have h4:=Q8 (c:=c) hbs;have:=hk.same hM (by simp only[RS.wf]);simp only[htd,htd2];have h5:=Adf hM hx hes;have h6:Qj (RS.ivss c es)=⟨bs.toArray⟩:=by unfold Qj;rw[h4.2]
    have key:∃es,Ml 1 σ (x.iv c)=some es∧es.all Kx=true∧k (.v (.string (Qj es))) σ:=⟨_,h5,h4.1,by rw[h6];simpa only[RS.iv,RS.vv]using this⟩;generalize x.iv c=y at key;cases y<;>exact key
   ·cases he
  ·cases he
 ·cases he
def Xb(i:TK)(h:Sto):Option (RS×Sto):=match h.new (.cells (i.zr.map .v))with
 |some (b,h')=>some (.ptr b 0,h')
 |none=>none
theorem Abc(hM:Mt σ0 c h σ){i:TK}(he:Xb i h=some (v,h'))(hk:Kt σ0 c h v h' k):Ik (some i) σ k:=by
 unfold Xb at he;split at he
 ·rename_i b h2 hn
  injection he with he;injection he with h1 h3;subst h1;subst h3;have hi:=Rx hn;subst hi;intro bb hbb;have:=Kt.new (kk:=0) hM hn (Qr _ _) hbb (x:=.cells (i.zr.map .v)) (by simp only[io,Pu]) (Nat.le_refl _) hk (by simp only[RS.wf];omega);simpa only[RS.iv,RS.vv,Cx.more,if_true]using this
 ·cases he
def eBox(x:RS)(h:Sto):Option (RS×Sto):=gd (x.cells.all RS.one) (match h.new (.cells x.cells)with
 |some (b,h')=>some (.ptr b 0,h')
 |none=>none)
theorem Agb(hM:Mt σ0 c h σ){x:RS}(hx:x.wf h.n)(he:eBox x h=some (v,h'))(hk:Kt σ0 c h v h' k):aBox (x.iv c) σ k:=by
 unfold eBox at he;rw[Ah]at he;obtain⟨hone,he⟩:=he;split at he
 ·rename_i b h2 hn
  injection he with he;injection he with h1 h3;subst h1;subst h3;have hi:=Rx hn;subst hi;refine⟨by rw[Iu hM.a,Tj hM.a];exact hone,fun bb hbb=>?_⟩;have hw:=Lk hx;have:=Kt.new (kk:=0) hM hn hw hbb (x:=.cells (x.iv c).cells) (by simp only[io];rw[D2 (Gm c h.n bb 0) _ hw,Iu hM.a]) (Nat.le_refl _) hk (by simp only[RS.wf];omega);simpa only[RS.iv,RS.vv,Cx.more,if_true]using this
 ·cases he
def Adg(i:TK)(h:Sto)(l m:RS):Option (RS×Sto):=match i.td with
 | .sl q eby ez _=>match eNat l,eNat m with
  |some l,some m=>gd (Nat.beq l m&&Nat.blt 0 q&&Nat.blt 0 eby&&ez.all Value.oneCell'&&Nat.ble (eby*m) 281474976710656) (match h.new (.rows q (List.replicate l (ez.map .v)) false)with
   |some (b,h')=>some (.row b l,h')
   |none=>none)
  |_,_=>none
 |_=>none
theorem Adh(hM:Mt σ0 c h σ){i:TK}{l m:RS}(he:Adg i h l m=some (v,h'))(hk:Kt σ0 c h v h' k):Ld (some i) σ (l.iv c) (m.iv c) k:=by
 unfold Adg at he;simp only[Ld];split at he
 ·rename_i q eby ez byt htd
  simp only[htd];split at he
  ·rename_i l' m' hl hm
   obtain⟨ik,rfl⟩:=Ls hl;obtain⟨ik',rfl⟩:=Ls hm;rw[Ah]at he;simp only[Bool.and_eq_true,Aq,A1,Bf]at he;obtain⟨⟨⟨⟨⟨rfl,h1⟩,h2⟩,h3⟩,h4⟩,he⟩:=he;split at he
   ·rename_i b h5 hn
    injection he with he;injection he with h6 h7;subst h6;subst h7;have hi:=Rx hn;subst hi;simp only[RS.iv,RS.vv]
    refine⟨h1,h2,h3,by omega,by omega,by have:((eby*l':Nat):Int)≤281474976710656:=by omega
                                         simpa using this,fun bb hbb=>?_⟩
    have:=Kt.new (kk:=l') hM hn (Wy _ _ _) hbb (x:=.rows q (List.replicate l' (ez.map .v)) false l') (by simp only[io,Vy,Cx.more,if_true]) (by simp[SO.len]) hk (by simp only[RS.wf];omega);simpa only[RS.iv,RS.vv,Cx.more,if_true,Int.toNat_natCast]using this
   ·cases he
  ·cases he
 ·cases he
def eSrc(q:Nat)(byt:Bool)(h:Sto):RS→Option (List (List RS))
 | .sl q' es=>gd (Nat.beq q' q) (some es)
 | .fsl q' es=>gd (Nat.beq q' q) (some es)
 | .v (.slice none 0 0)=>some []
 | .v (.string s)=>gd (byt&&Nat.beq q 1) (some (s.data.toList.map R3))
 | .row b n=>match h.get b with
  | .rows q' es _=>gd (Nat.beq q' q&&Nat.ble n es.length) (some (es.take n))
  |_=>none
 | .part b q1 l n=>match h.get b with
  | .rows q' es _=>gd (Nat.beq q' q&&Nat.beq q1 q&&Nat.blt 0 q&&Nat.ble (l+n) es.length) (some ((es.drop l).take n))
  |_=>none
 |_=>none
theorem Ags(hM:Mt σ0 c h σ){q:Nat}{byt:Bool}{x:RS}{es:List (List RS)}(hx:x.wf h.n)(he:eSrc q byt h x=some es):src q byt σ (x.iv c)=some (RS.ivss c es):=by
 unfold eSrc at he;split at he
 ·rw[Ah,Aq]at he;obtain⟨rfl,he⟩:=he;injection he with he;subst he;simp only[RS.iv,src,if_true]
 ·rw[Ah,Aq]at he;obtain⟨rfl,he⟩:=he;injection he with he;subst he;simp only[RS.iv,src,if_true]
 ·injection he with he;subst he;rfl
 ·rw[Ah,Bool.and_eq_true,Aq]at he
  obtain⟨⟨h1,h2⟩,he⟩:=he;injection he with he;subst he;simp only[RS.iv,RS.vv,src,Wb];rw[if_pos ⟨h1,h2⟩]
 ·rename_i b n
  split at he
  ·rename_i q' es' frz hb
   rw[Ah,Bool.and_eq_true,Aq,Bf]at he;obtain⟨⟨rfl,h1⟩,he⟩:=he;injection he with he;subst he;have hbn:b<h.n:=by simpa only[RS.wf]using hx
   have h2:=hM.ob b (.rows q' (RS.ivss c es') frz (c.k b)) hbn (by rw[hb];rfl);simp only[RS.iv,RS.vv,src,h2,Be,←Fw,Nat.zero_mod,Nat.zero_div,Nat.zero_add,List.drop_zero];rw[if_pos ⟨trivial,trivial,h1⟩]
  ·cases he
 ·rename_i b q1 l n
  split at he
  ·rename_i q' es' frz hb
   simp only[Ah,Bool.and_eq_true,Aq,Bf,A1]at he;obtain⟨⟨⟨⟨rfl,rfl⟩,hq⟩,h1⟩,he⟩:=he;injection he with he;subst he;have hbn:b<h.n:=by simpa only[RS.wf]using hx
   have h2:=hM.ob b (.rows q1 (RS.ivss c es') frz (c.k b)) hbn (by rw[hb];rfl);simp only[RS.iv,RS.vv,src,h2,Be,←Fw,←Jt,Nat.mul_mod_left,Nat.mul_div_cancel _ hq];rw[if_pos ⟨trivial,trivial,h1⟩]
  ·cases he
 ·cases he
theorem Agt(hS:WfS h){q:Nat}{byt:Bool}{x:RS}{es:List (List RS)}(hx:x.wf h.n)(he:eSrc q byt h x=some es):RS.wfss h.n es:=by
 unfold eSrc at he;split at he
 ·rw[Ah]at he;have he:=he.2;injection he with he;subst he;simpa only[RS.wf]using hx
 ·rw[Ah]at he;have he:=he.2;injection he with he;subst he;simpa only[RS.wf]using hx
 ·injection he with he;subst he;simp only[RS.wfss]
 ·rw[Ah]at he;have he:=he.2;injection he with he;subst he;exact Wc _ _
 ·rename_i b n
  have hbn:b<h.n:=by simpa only[RS.wf]using hx
  have hw:=hS.ob b hbn;split at he
  ·rename_i q' es' frz hb
   rw[hb]at hw;rw[Ah]at he;have he:=he.2;injection he with he;subst he;exact Hv _ hw
  ·cases he
 ·rename_i b q1 l n
  have hbn:b<h.n:=by simpa only[RS.wf]using hx
  have hw:=hS.ob b hbn;split at he
  ·rename_i q' es' frz hb
   rw[hb]at hw;rw[Ah]at he;have he:=he.2;injection he with he;subst he;exact Hv _ (J6 _ hw)
  ·cases he
 ·cases he
end
section
variable{P:Program}{σ0 σ:St}{c c':Cx}{h h':Sto}{n:Nat}{fr:Tr RS}{v:RS}{K:AV→Prop}{k:AV→St→Prop}
def Lt(q:Nat)(es:List (List RS))(frz:Bool)(h:Sto):Option (RS×Sto):=match h.new (.rows q es frz)with
 |some (b,h')=>some (.row b es.length,h')
 |none=>none
theorem Ko(hM:Mt σ0 c h σ){q:Nat}{es:List (List RS)}{frz:Bool}(hw:RS.wfss h.n es)(he:Lt q es frz h=some (v,h'))(hk:Kt σ0 c h v h' k){bb cap:Nat}(hb:σ bb=none)(hc:es.length≤cap):
  k (.v (.slice (some ⟨bb,0,none⟩) es.length cap)) (σ.set bb (.rows q (RS.ivss c es) frz cap)):=by
 unfold Lt at he;split at he
 ·rename_i b h2 hn
  injection he with he;injection he with h1 h3;subst h1;subst h3;have hi:=Rx hn;subst hi;have:=Kt.new (kk:=cap) hM hn hw hb (x:=.rows q (RS.ivss c es) frz cap) (by simp only[io];rw[Gk (Gm c h.n bb cap) _ hw];simp only[Cx.more,if_true]) (by simp only[SO.len];exact hc) hk (by simp only[RS.wf];omega);simpa only[RS.iv,RS.vv,Cx.more,if_true]using this
 ·cases he
def Xc(q eby:Nat)(ys:List (List RS))(h:Sto)(s:RS):Option (RS×Sto):=match s with
 | .v (.slice none 0 0)=>match ys with
  | []=>some (.v (.slice none 0 0),h)
  |y::l=>gd (Nat.ble ((y::l).length*eby) 140737488355328) (Lt q (y::l) false h)
 | .fsl q' es=>gd (Nat.beq q' q) (match ys with
  | []=>some (.fsl q es,h)
  |y::l=>gd (Nat.ble ((es.length+(y::l).length)*eby) 140737488355328) (Lt q (es++(y::l)) false h))
 | .row b n=>match h.get b with
  | .rows q' es frz=>gd (Nat.beq q' q&&Nat.ble ((n+ys.length)*eby) 140737488355328) (match Nat.beq n es.length with
   |true=>Lt q (es++ys) frz (h.put b .gone)
   |false=>match frz with
    |true=>none
    |false=>gd (Nat.ble (n+ys.length) es.length) (some (.row b (n+ys.length),h.put b (.rows q (es.take n++ys++es.drop (n+ys.length)) false))))
  |_=>none
 |_=>none
theorem Kt.of_put(hM:Mt σ0 c h σ){b:Nat}{o:SO}{v:RS}{h2:Sto}(hb:b<h.n)(hl:∀fr ps a b' st pend pls,h.get b≠.loop fr ps a b' st pend pls)(hg:h.get b≠.gone)(hk:Kt σ0 c h v h2 k):Kt σ0 c (h.put b o) v h2 k:=
 fun c' σ' h1 h2' h3 h4 h5=>hk c' σ' h1 h2' h3 ((Ih.put hM.wf.lt hb (fun _ _ _ _ _ _ _ e=>absurd e (hl _ _ _ _ _ _ _)) (fun e=>absurd e hg)).trans h4 (Nat.le_refl _)) h5
theorem Abd(hM:Mt σ0 c h σ){q eby:Nat}{ys:List (List RS)}{s:RS}(hs:s.wf h.n)(hy:RS.wfss h.n ys)(he:Xc q eby ys h s=some (v,h'))(hk:Kt σ0 c h v h' k):D7 q eby (RS.ivss c ys) σ (s.iv c) k:=by
 unfold Xc at he;split at he
 ·simp only[RS.iv,RS.vv,D7]
  split at he
  ·injection he with he
   injection he with h1 h2;subst h1;subst h2;have:=hk.same hM (by simp only[RS.wf]);exact⟨fun _=>by simpa only[RS.iv,RS.vv]using this,fun h=>absurd rfl h⟩
  ·rename_i y l
   rw[Ah,Bf]at he;refine⟨(fun h=>by simp only[RS.ivss]at h;cases h),fun _=>⟨by rw[Be];exact he.1,fun b cap hb hc=>?_⟩⟩;rw[Be]at hc⊢;exact Ko hM hy he.2 hk hb hc
 ·rename_i q' es
  rw[Ah,Aq]at he;obtain⟨rfl,he⟩:=he;simp only[RS.iv,D7];have hes:RS.wfss h.n es:=by simpa only[RS.wf]using hs
  split at he
  ·injection he with he
   injection he with h1 h2;subst h1;subst h2;have:=hk.same hM (by simpa only[RS.wf]using hes);exact⟨trivial,fun _=>by simpa only[RS.iv]using this,fun h=>absurd rfl h⟩
  ·rename_i y l
   rw[Ah,Bf]at he;refine⟨trivial,(fun h=>by simp only[RS.ivss]at h;cases h),fun _=>⟨by rw[Be,Be];exact he.1,fun b cap hb hc=>?_⟩⟩;have:=Ko (bb:=b) (cap:=cap) hM (Hu hes hy) he.2 hk hb (by rw[List.length_append];rwa[Be,Be]at hc);rw[I9,List.length_append]at this;rw[Be,Be];exact this
 ·rename_i b n
  have hb:b<h.n:=by simpa only[RS.wf]using hs
  split at he
  ·rename_i q' es frz hg
   rw[Ah,Bool.and_eq_true,Aq,Bf]at he;obtain⟨⟨rfl,hbd⟩,he⟩:=he;have hw:=hM.wf.ob b hb;have hcap:=hM.cap b hb;have hne:h.get b≠.gone:=by rw[hg];intro e;cases e
   have hob:=hM.ob b (.rows q' (RS.ivss c es) frz (c.k b)) hb (by rw[hg];rfl);rw[hg]at hw hcap;simp only[SO.len]at hcap;simp only[RS.iv,RS.vv,D7];split at he
   ·rename_i hn
    rw[Aq]at hn;subst hn;refine .inr (.inl ⟨trivial,?_⟩);simp only[hob,Be];refine⟨trivial,trivial,trivial,hbd,fun b' cap' hb' hc'=>?_⟩;have:=Ko (bb:=b') (cap:=cap') (hM.del hb hne) (Hu hw hy) he (Kt.of_put hM hb (by rw[hg];intro _ _ _ _ _ _ _ e;cases e) hne hk) hb' (by rw[List.length_append];exact hc');rw[I9,List.length_append]at this;exact this
   ·split at he
    ·cases he
    ·rw[Ah,Bf]at he
     obtain⟨hle,he⟩:=he;injection he with he;injection he with h1 h2;subst h1;subst h2;refine .inr (.inr (.inl ⟨trivial,?_⟩));simp only[hob,Be];refine⟨trivial,by omega,trivial,by omega,hbd,?_⟩;have hl2:(es.take n++ys++es.drop (n+ys.length)).length=es.length:=by simp;omega
     have hM2:=hM.put (o:=.rows q' (es.take n++ys++es.drop (n+ys.length)) false) (x:=.rows q' ((RS.ivss c es).take n++RS.ivss c ys++(RS.ivss c es).drop (n+ys.length)) false (c.k b)) hb hne
      (by simp only[io,I9,Fw,Jt]) (Hu (Hu (Hv _ hw) hy) (J6 _ hw)) (by simp only[SO.len,hl2];exact hcap)
     have:=hk c _ (.refl _ _) hM2 (Nat.le_refl _) (.put hM.wf.lt hb (by rw[hg];intro _ _ _ _ _ _ _ e;cases e) (by rw[hg];intro e;cases e)) (by simp only[RS.wf];exact hb);simpa only[RS.iv,RS.vv]using this
  ·cases he
 ·cases he
def eApp(i:TK)(h:Sto)(s x:RS):Option (RS×Sto):=match i.td with
 | .sl q eby ez byt=>gd (Nat.blt 0 q&&Nat.blt 0 eby&&ez.all Value.oneCell') (match eSrc q byt h x with
  |some ys=>Xc q eby ys h s
  |none=>none)
 |_=>none
theorem Af8(hM:Mt σ0 c h σ){i:TK}{s x:RS}(hs:s.wf h.n)(hx:x.wf h.n)(he:eApp i h s x=some (v,h'))(hk:Kt σ0 c h v h' k):Qw (some i) σ (s.iv c) (x.iv c) k:=by
 unfold eApp at he;simp only[Qw];split at he
 ·rename_i q eby ez byt htd
  simp only[htd];rw[Ah,Bool.and_eq_true,Bool.and_eq_true,A1,A1]at he;obtain⟨⟨⟨h1,h2⟩,h3⟩,he⟩:=he;split at he
  ·rename_i ys hys
   exact⟨h1,h2,h3,_,Ags hM hx hys,Abd hM hs (Agt hM.wf hx hys) he hk⟩
  ·cases he
 ·cases he
def eClr(q:Nat)(ez:List Value)(h:Sto)(b l n:Nat):Option (RS×Sto):=match h.get b with
 | .rows q' es false=>gd (Nat.beq q' q&&Nat.blt 0 q&&Nat.ble (l+n) es.length&&Nat.blt 0 n&&ez.all Value.oneCell') (some (.tup [],h.put b (.rows q (es.take l++List.replicate n (ez.map .v)++es.drop (l+n)) false)))
 |_=>none
def Xf(i:TK)(h:Sto)(x:RS):Option (RS×Sto):=match i.td with
 | .sl q _ ez _=>match x with
  | .v (.slice none _ _)=>some (.tup [],h)
  | .row b n=>eClr q ez h b 0 n
  | .part b q1 l n=>gd (Nat.beq q1 q) (eClr q ez h b l n)
  |_=>none
 |_=>none
theorem Abp(c:Cx)(n:Nat)(ez:List Value):RS.ivss c (List.replicate n (ez.map .v))=List.replicate n (ez.map AV.v):=by
 rw[Bs,List.map_replicate,Pu]
theorem Zn(hM:Mt σ0 c h σ){q b l n p cc:Nat}{ez:List Value}(hb:b<h.n)(hp:p=l*q)(he:eClr q ez h b l n=some (v,h'))(hk:Kt σ0 c h v h' k){ag byt:Bool}{sz eby:Nat}{zr:List Value}:
  aClear (some ⟨ag,sz,zr,.sl q eby ez byt⟩) σ (.v (.slice (some ⟨c.r b,p,none⟩) n cc)) k:=by
 unfold eClr at he;split at he
 ·rename_i q' es hg
  simp only[Ah,Bool.and_eq_true,Aq,A1,Bf]at he;obtain⟨⟨⟨⟨⟨rfl,h1⟩,h2⟩,h3⟩,h4⟩,he⟩:=he;injection he with he;injection he with he1 he2;subst he1;subst he2;subst hp;have h5:io c b (h.get b)=some (.rows q' (RS.ivss c es) false (c.k b)):=by rw[hg];rfl
  have h6:=hM.ob b _ hb h5;have hw:=hM.wf.ob b hb;have hcap:=hM.cap b hb;rw[hg]at hw hcap;simp only[SO.len]at hcap;simp only[aClear];rw[if_neg (by omega)];simp only[h6,Nat.mul_div_cancel _ h1,Be];refine⟨trivial,h1,Nat.mul_mod_left _ _,h2,h4,?_⟩;have e:RS.ivss c (es.take l++List.replicate n (ez.map .v)++es.drop (l+n))=(RS.ivss c es).take l++List.replicate n (ez.map AV.v)++(RS.ivss c es).drop (l+n):=by
   rw[I9,I9,Fw,Jt,Abp]
  have hz:RS.wfss h.n (List.replicate n (ez.map RS.v)):=Cb.2 fun x hx=>by
   rw[(List.mem_replicate.1 hx).2];exact Qr _ _
  have hM':Mt σ0 c (h.put b (.rows q' (es.take l++List.replicate n (ez.map .v)++es.drop (l+n)) false)) (σ.set (c.r b) (.rows q' ((RS.ivss c es).take l++List.replicate n (ez.map AV.v)++(RS.ivss c es).drop (l+n)) false (c.k b))):=
   hM.put hb (by rw[hg];intro e;cases e) (by simp only[io,e]) (Hu (Hu (Hv _ hw) hz) (J6 _ hw)) (by simp only[SO.len,List.length_append,List.length_take,List.length_replicate,List.length_drop];omega)
  have:=hk c _ (.refl _ _) hM' (Nat.le_refl _) (.put hM.wf.lt hb (by rw[hg];intro _ _ _ _ _ _ _ e;cases e) (by rw[hg];intro e;cases e)) (by simp only[RS.wf,RS.wfs]);simpa only[RS.iv,RS.ivs]using this
 ·cases he
theorem Abg(hM:Mt σ0 c h σ){i:TK}{x:RS}(hx:x.wf h.n)(he:Xf i h x=some (v,h'))(hk:Kt σ0 c h v h' k):aClear (some i) σ (x.iv c) k:=by
 obtain⟨ag,sz,zr,td⟩:=i;unfold Xf at he;simp only at he;split at he
 ·split at he
  ·injection he with he
   injection he with he1 he2;subst he1;subst he2;have:=hk c _ (.refl _ _) hM (Nat.le_refl _) (.refl h) (by simp only[RS.wf,RS.wfs]);simpa only[RS.iv,RS.vv,RS.ivs,aClear]using this
  ·rename_i b n
   simp only[RS.wf]at hx;simp only[RS.iv,RS.vv];exact Zn hM hx (p:=0) (by omega) he hk
  ·rename_i b q1 l n
   simp only[RS.wf]at hx;rw[Ah,Aq]at he;obtain⟨rfl,he⟩:=he;simp only[RS.iv,RS.vv];exact Zn hM hx rfl he hk
  ·cases he
 ·cases he
structure En where
 ty:Tr TE
 cl:FuncId→List RS→Sto→Option (RS×Sto)
 yl:Nat→List RS→Sto→Option (RS×Sto)
 idle:FuncId→Bool
def En.te(E:En)(t:TypeId):Option TE:=gd (Nat.blt t 1024) (E.ty.get 10 t)
structure Mo(P:Program)(E:En):Prop where
 ty:∀t e,E.te t=some e→Eg P t e
 cl:∀(f:FuncId) (as:List RS) (h:Sto) (v:RS) (h':Sto),E.cl f as h=some (v,h')→∀σ0 c σ k,Mt σ0 c h σ→RS.wfs h.n as→Kt σ0 c h v h' k→AT P f (RS.ivs c as) σ k
 yl:∀(l:Nat) (as:List RS) (h:Sto) (v:RS) (h':Sto),E.yl l as h=some (v,h')→∀σ0 c σ k,Mt σ0 c h σ→RS.wfs h.n as→l<h.n→Kt σ0 c h v h' k→YC P (c.r l) (RS.ivs c as) σ k
 idle:∀f,E.idle f=true→(∃fn,P.funcs[f]? =some fn∧fn.body.isSome=true∧fn.name≠ "runtime.NumGoroutine")∧∀vs,Uf P f vs
def oOpd(fr:Tr RS):Option Operand→Option (Option RS)
 |none=>some none
 |some x=>match eEv fr x with
  |some v=>some (some v)
  |none=>none
def Dn(h:Sto):Option RS→Option (RS×Sto)
 |some v=>some (v,h)
 |none=>none
def Ac1(E:En)(c:Call)(fr:Tr RS)(h:Sto):Option (RS×Sto):=match Pi fr c.args.toList with
 |none=>none
 |some as=>match c.callee with
  | .value (.func f)=>E.cl f as h
  | .value (.tmp t)=>match eEv fr (.tmp t)with
   |some (.fn f fi ca)=>gd (fi.all RS.isV&&ca.all RS.isV) (E.cl f (fi++as++ca) h)
   |some (.yld l)=>E.yl l as h
   |_=>none
  | .builtin .len=>match as,c.argTypes.toList with
   | [x],[t]=>match E.te t with
    |some te=>Dn h (eLen te.k x)
    |none=>none
   |_,_=>none
  | .builtin .append=>match as,c.argTypes.toList with
   | [s,x],[t1,t2]=>match E.te t1,E.te t2 with
    |some e1,some e2=>match K0 (some e2.k)with
     |true=>eApp e1.k h s x
     |false=>none
    |_,_=>none
   |_,_=>none
  | .builtin .clear=>match as,c.argTypes.toList with
   | [x],[t]=>match E.te t with
    |some te=>Xf te.k h x
    |none=>none
   |_,_=>none
  |_=>none
def eOp(E:En)(o:Op)(fr:Tr RS)(h:Sto):Option (RS×Sto):=match o with
 | .move x=>Dn h (eEv fr x)
 | .assign x=>Dn h (eEv fr x)
 | .pick c x y=>match eEv fr c,eEv fr x,eEv fr y with
  |some c,some x,some y=>Dn h (Vh c x y)
  |_,_,_=>none
 | .alloc t=>match E.te t with
  |some te=>Xb te.k h
  |none=>none
 | .box _ x=>match eEv fr x with
  |some x=>eBox x h
  |none=>none
 | .build t ps=>match E.te t,S2 fr ps.toList with
  |some te,some vs=>Dn h (Ph te.k vs)
  |_,_=>none
 | .buildSlice t n ps=>match E.te t,S2 fr ps.toList with
  |some te,some vs=>Dn h (Lp te.k n vs)
  |_,_=>none
 | .load t x=>match E.te t,eEv fr x with
  |some te,some x=>Dn h (Lr te.k h x)
  |_,_=>none
 | .store t x y=>match E.te t,eEv fr x,eEv fr y with
  |some te,some x,some y=>match Xh te.k h x y with
   |some h'=>some (.v undef,h')
   |none=>none
  |_,_,_=>none
 | .nilCheck x=>match eEv fr x with
  |some x=>Dn h (eNil x)
  |none=>none
 | .binOp op t x y _=>match E.te t,eEv fr x,eEv fr y with
  |some te,some x,some y=>Dn h (eBin op te x y)
  |_,_,_=>none
 | .unOp op _ x=>match eEv fr x with
  |some x=>Dn h (eUn op x)
  |none=>none
 | .convert s d x=>match E.te s,E.te d,eEv fr x with
  |some i,some j,some x=>Ac3 i.k j.k h x
  |_,_,_=>none
 | .makeFunc fn fi ca=>match Pi fr fi.toList,Pi fr ca.toList with
  |some fi,some ca=>Dn h (Ve fn fi ca)
  |_,_=>none
 | .slice t x lo hi mx=>match E.te t,eEv fr x,oOpd fr lo,oOpd fr hi,oOpd fr mx with
  |some te,some x,some lo,some hi,some mx=>Dn h (eSli te.k h x lo hi mx)
  |_,_,_,_,_=>none
 | .fieldAddr s x f=>match E.te s,eEv fr x with
  |some te,some x=>Dn h (Vd te.k f x)
  |_,_=>none
 | .field s x f=>match E.te s,eEv fr x with
  |some te,some x=>Dn h (eFld te.k f x)
  |_,_=>none
 | .indexAddr t x ix=>match E.te t,eEv fr x,eEv fr ix with
  |some te,some x,some ix=>Dn h (Vf te.k x ix)
  |_,_,_=>none
 | .index t x ix=>match E.te t,eEv fr x,eEv fr ix with
  |some te,some x,some ix=>Dn h (eIdx te.k x ix)
  |_,_,_=>none
 | .extract x j=>match eEv fr x with
  |some x=>Dn h (eExt x j)
  |none=>none
 | .call c=>Ac1 E c fr h
 | .makeSlice t l m=>match E.te t,eEv fr l,eEv fr m with
  |some te,some l,some m=>Adg te.k h l m
  |_,_,_=>none
 | .makeInterface t x=>match E.te t,eEv fr x with
  |some te,some x=>Dn h (eMkI te t x)
  |_,_=>none
 | .typeAssert x _ u false=>match E.te u,eEv fr x with
  |some te,some x=>Dn h (eTyA te u x)
  |_,_=>none
 | .defer c=>match c.callee,c.args.toList with
  | .value (.tmp t),[]=>match eEv fr (.tmp t)with
   |some (.fn f _ _)=>gd (E.idle f) (some (.v undef,h))
   |_=>none
  |_,_=>none
 |_=>none
theorem A7{x:Option RS}(he:Dn h x=some (v,h')):x=some v∧h'=h:=by
 cases x with
 |none=>cases he
 |some y=>simp only[Dn,Option.some.injEq,Prod.mk.injEq]at he;exact⟨by rw[he.1],he.2.symm⟩
theorem Ti{x:Option Operand}{y:Option RS}(he:oOpd fr x=some y):x.map (ifr c fr).ev=y.map (RS.iv c):=by
 cases x with
 |none=>simp only[oOpd,Option.some.injEq]at he;subst he;rfl
 |some x=>
  simp only[oOpd]at he;split at he
  ·rename_i v hv
   injection he with he;subst he;simp only[Option.map_some,A5 hv]
  ·cases he
theorem Ac2{E:En}(hE:Mo P E)(hM:Mt σ0 c h σ)(hf:wfr h.n fr){cc:Call}(he:Ac1 E cc fr h=some (v,h'))(hk:Kt σ0 c h v h' k):Dr P cc (ifr c fr) σ k:=by
 obtain⟨callee,args,ts⟩:=cc;unfold Ac1 at he;simp only at he;split at he
 ·cases he
 ·rename_i as has
  have hav:args.toList.map (ifr c fr).ev=RS.ivs c as:=by rw[Ob has,Ce]
  have haw:=Oc hf has;split at he
  ·simp only[Dr]
   rw[hav];exact hE.cl _ _ _ _ _ he σ0 c σ k hM haw hk
  ·rename_i t
   simp only[Dr];rw[hav];split at he
   ·rename_i f fi ca hx
    have h1:=A5 (c:=c) hx;have h2:=Bp hf hx;simp only[RS.wf]at h2;rw[Ah,Bool.and_eq_true]at he;have:=hE.cl _ _ _ _ _ he.2 σ0 c σ k hM (J5 (J5 h2.1 haw) h2.2) hk;simp only[Fr.ev,RS.iv,RS.vv]at h1;rw[h1];have e:∀l:List RS,l.all RS.isV=true→(RS.vvs c l).map AV.v=RS.ivs c l:=fun l hl=>by
     rw[Ue,Ce,List.map_map];exact List.map_congr_left fun x hx=>(Gj (List.all_eq_true.1 hl x hx)).symm
    simp only[Hw,e fi he.1.1,e ca he.1.2,←L1];exact this
   ·rename_i l hx
    have h1:=A5 (c:=c) hx;have h2:=Bp hf hx;simp only[RS.wf]at h2;simp only[Fr.ev,RS.iv,RS.vv]at h1;rw[h1];exact⟨rfl,rfl,hE.yl _ _ _ _ _ he σ0 c σ k hM haw h2 hk⟩
   ·cases he
  ·split at he
   ·rename_i x t hts
    split at he
    ·rename_i te hte
     obtain⟨hq,rfl⟩:=A7 he
     replace he:=hq
     obtain⟨x1,hx1⟩:∃x1,args.toList=[x1]:=by
      match hl:args.toList,has with
      | [x1],_=>exact⟨x1,rfl⟩
      | [],has=>simp[Pi]at has
      |a::b::l,has=>
       have:=congrArg List.length hav;rw[hl,List.length_map,Ca]at this;simp at this
     rw[hx1]at hav;simp only[List.map_cons,List.map_nil,RS.ivs,List.cons.injEq,and_true]at hav;simp only[Dr,hx1,hts,(hE.ty _ _ hte).k,hav];exact Agl he (hk.same hM (Agm he))
    ·cases he
   ·cases he
  ·split at he
   ·rename_i s x t1 t2 hts
    split at he
    ·rename_i e1 e2 ht1 ht2
     split at he
     ·rename_i hni
      obtain⟨x1,x2,hx1⟩:∃x1 x2,args.toList=[x1,x2]:=by
       have:=congrArg List.length hav;rw[List.length_map,Ca]at this
       match hl:args.toList with
       | [x1,x2]=>exact⟨x1,x2,rfl⟩
       | []=>rw[hl]at this;simp at this
       | [_]=>rw[hl]at this;simp at this
       |_::_::_::_=>rw[hl]at this;simp at this
      rw[hx1]at hav;simp only[List.map_cons,List.map_nil,RS.ivs,List.cons.injEq,and_true]at hav;simp only[RS.wfs,and_true]at haw;simp only[Dr,hx1,hts,(hE.ty _ _ ht1).k,(hE.ty _ _ ht2).k,hav.1,hav.2];rw[if_pos hni];exact Af8 hM haw.1 haw.2 he hk
     ·cases he
    ·cases he
   ·cases he
  ·split at he
   ·rename_i x t hts
    split at he
    ·rename_i te hte
     obtain⟨x1,hx1⟩:∃x1,args.toList=[x1]:=by
      have:=congrArg List.length hav;rw[List.length_map,Ca]at this
      match hl:args.toList with
      | [x1]=>exact⟨x1,rfl⟩
      | []=>rw[hl]at this;simp at this
      |_::_::_=>rw[hl]at this;simp at this
     rw[hx1]at hav;simp only[List.map_cons,List.map_nil,RS.ivs,List.cons.injEq,and_true]at hav;simp only[RS.wfs,and_true]at haw;simp only[Dr,aBI,hx1,hts,List.map_cons,List.map_nil,(hE.ty _ _ hte).k,hav];exact Abg hM haw he hk
    ·cases he
   ·cases he
  ·cases he
theorem S7{E:En}(hE:Mo P E)(hM:Mt σ0 c h σ)(hf:wfr h.n fr){o:Op}(he:eOp E o fr h=some (v,h'))(hk:Kt σ0 c h v h' k):aOp P o (ifr c fr) σ k:=by
 cases o with
 |move x=>
  obtain⟨hq,rfl⟩:=A7 he
  replace he:=hq
  simp only[aOp,A5 he];exact hk.same hM (Bp hf he)
 |assign x=>
  obtain⟨hq,rfl⟩:=A7 he
  replace he:=hq
  simp only[aOp,A5 he];exact hk.same hM (Bp hf he)
 |pick p x y=>
  simp only[eOp]at he;split at he
  ·rename_i p' x' y' h1 h2 h3
   obtain⟨hq,rfl⟩:=A7 he
   replace he:=hq
   simp only[aOp,A5 h1,A5 h2,A5 h3];exact Adi he (hk.same hM (Adj (Bp hf h2) (Bp hf h3) he))
  ·cases he
 |alloc t=>
  simp only[eOp]at he;split at he
  ·rename_i te hte
   simp only[aOp,(hE.ty _ _ hte).k];exact Abc hM he hk
  ·cases he
 |box t x=>
  simp only[eOp]at he;split at he
  ·rename_i x' h1
   simp only[aOp,A5 h1];exact Agb hM (Bp hf h1) he hk
  ·cases he
 |build t ps=>
  simp only[eOp]at he;split at he
  ·rename_i te vs hte h1
   obtain⟨hq,rfl⟩:=A7 he
   replace he:=hq
   simp only[aOp,(hE.ty _ _ hte).k,S5 h1];exact Abe hM.a he (hk.same hM (Abf (S6 hf h1) he))
  ·cases he
 |buildSlice t m ps=>
  simp only[eOp]at he;split at he
  ·rename_i te vs hte h1
   obtain⟨hq,rfl⟩:=A7 he
   replace he:=hq
   simp only[aOp,(hE.ty _ _ hte).k,S5 h1];exact Xd hM.a he (hk.same hM (Xe (S6 hf h1) he))
  ·cases he
 |load t x=>
  simp only[eOp]at he;split at he
  ·rename_i te x' hte h1
   obtain⟨hq,rfl⟩:=A7 he
   replace he:=hq
   simp only[aOp,(hE.ty _ _ hte).k,A5 h1];exact Adb hM (Bp hf h1) he (hk.same hM (Adc hM.wf (Bp hf h1) he))
  ·cases he
 |store t x y=>
  simp only[eOp]at he;split at he
  ·rename_i te x' y' hte h1 h2
   split at he
   ·rename_i h2' hst
    injection he with he;injection he with h3 h4;subst h3;subst h4;simp only[aOp,(hE.ty _ _ hte).k,A5 h1,A5 h2];refine Abi hM (Bp hf h1) (Bp hf h2) hst fun σ' hn hkp hM'=>?_;have:=hk c σ' (.refl _ _) hM' (by omega) hkp (by simp only[RS.wf]);simpa only[RS.iv,RS.vv]using this
   ·cases he
  ·cases he
 |nilCheck x=>
  simp only[eOp]at he;split at he
  ·rename_i x' h1
   obtain⟨hq,rfl⟩:=A7 he
   replace he:=hq
   simp only[aOp,A5 h1];exact Ago he (hk.same hM (Agp (Bp hf h1) he))
  ·cases he
 |binOp op t x y ty=>
  simp only[eOp]at he;split at he
  ·rename_i te x' y' hte h1 h2
   obtain⟨hq,rfl⟩:=A7 he
   replace he:=hq
   simp only[aOp,A5 h1,A5 h2];exact Af9 (hE.ty _ _ hte) he (hk.same hM (Aga he))
  ·cases he
 |unOp op t x=>
  simp only[eOp]at he;split at he
  ·rename_i x' h1
   obtain⟨hq,rfl⟩:=A7 he
   replace he:=hq
   simp only[aOp,A5 h1];exact Akh he (hk.same hM (Aki he))
  ·cases he
 |convert s d x=>
  simp only[eOp]at he;split at he
  ·rename_i i j x' hi hj h1
   simp only[aOp,(hE.ty _ _ hi).k,(hE.ty _ _ hj).k,A5 h1];exact Ac4 hM (Bp hf h1) he hk
  ·cases he
 |makeFunc fn fi ca=>
  simp only[eOp]at he;split at he
  ·rename_i fi' ca' h1 h2
   obtain⟨hq,rfl⟩:=A7 he
   replace he:=hq
   simp only[aOp];exact Ac7 (Ob h1) (Ob h2) he (hk.same hM (Ac8 (Oc hf h1) (Oc hf h2) he))
  ·cases he
 |slice t x lo hi mx=>
  simp only[eOp]at he;split at he
  ·rename_i te x' lo' hi' mx' hte h1 h2 h3 h4
   obtain⟨hq,rfl⟩:=A7 he
   replace he:=hq
   simp only[aOp,(hE.ty _ _ hte).k,A5 h1,Ti h2,Ti h3,Ti h4];exact Agq hM (Bp hf h1) he (hk.same hM (Agr (Bp hf h1) he))
  ·cases he
 |fieldAddr s x f=>
  simp only[eOp]at he;split at he
  ·rename_i te x' hte h1
   obtain⟨hq,rfl⟩:=A7 he
   replace he:=hq
   simp only[aOp,(hE.ty _ _ hte).k,A5 h1];exact Ac5 he (hk.same hM (Ac6 (Bp hf h1) he))
  ·cases he
 |field s x f=>
  simp only[eOp]at he;split at he
  ·rename_i te x' hte h1
   obtain⟨hq,rfl⟩:=A7 he
   replace he:=hq
   simp only[aOp,(hE.ty _ _ hte).k,A5 h1];exact Agf he (hk.same hM (Agg (Bp hf h1) he))
  ·cases he
 |indexAddr t x ix=>
  simp only[eOp]at he;split at he
  ·rename_i te x' y' hte h1 h2
   obtain⟨hq,rfl⟩:=A7 he
   replace he:=hq
   simp only[aOp,(hE.ty _ _ hte).k,A5 h1,A5 h2];exact Ac9 he (hk.same hM (Ada (Bp hf h1) he))
  ·cases he
 |index t x ix=>
  simp only[eOp]at he;split at he
  ·rename_i te x' y' hte h1 h2
   obtain⟨hq,rfl⟩:=A7 he
   replace he:=hq
   simp only[aOp,(hE.ty _ _ hte).k,A5 h1,A5 h2];exact Agi he (hk.same hM (Agj (Bp hf h1) he))
  ·cases he
 |extract x j=>
  simp only[eOp]at he;split at he
  ·rename_i x' h1
   obtain⟨hq,rfl⟩:=A7 he
   replace he:=hq
   simp only[aOp,A5 h1];exact Agd he (hk.same hM (Age (Bp hf h1) he))
  ·cases he
 |call cc=>exact Ac2 hE hM hf he hk
 |makeSlice t l m=>
  simp only[eOp]at he;split at he
  ·rename_i te x' y' hte h1 h2
   simp only[aOp,Cq,(hE.ty _ _ hte).k,A5 h1,A5 h2];exact Adh hM he hk
  ·cases he
 |makeInterface t x=>
  simp only[eOp]at he;split at he
  ·rename_i te x' hte h1
   obtain⟨hq,rfl⟩:=A7 he
   replace he:=hq
   simp only[aOp,Cq,A5 h1];refine Agn (hE.ty _ _ hte) he (hk.same hM ?_);unfold eMkI at he;rw[Ah]at he;have h2:=he.2;injection h2 with h2;subst h2;simpa only[RS.wf]using Bp hf h1
  ·cases he
 |typeAssert x t u ok=>
  cases ok with
  |true=>cases he
  |false=>
   simp only[eOp]at he;split at he
   ·rename_i te x' hte h1
    obtain⟨hq,rfl⟩:=A7 he
    replace he:=hq
    simp only[aOp,Cq,A5 h1];refine Agv (hE.ty _ _ hte) he (hk.same hM ?_);have hw:=Bp hf h1;unfold eTyA at he;split at he
    ·rw[Ah]at he
     have h2:=he.2;injection h2 with h2;subst h2;simpa only[RS.wf]using hw
    ·cases he
   ·cases he
 |defer cc=>
  obtain⟨callee,args,ts⟩:=cc;simp only[eOp]at he;split at he
  ·rename_i t ha
   split at he
   ·rename_i f fi ca h1
    rw[Ah]at he;obtain⟨hi,he⟩:=he;injection he with he;injection he with h3 h4;subst h3;subst h4;have h5:=A5 (c:=c) h1;simp only[Fr.ev,RS.iv,RS.vv]at h5;simp only[aOp,Cq,Mq,ha,h5];have h6:=hE.idle f hi;have:=hk.same hM (by simp only[RS.wf]);exact⟨h6.1,h6.2 _,by simpa only[RS.iv,RS.vv]using this⟩
   ·cases he
  ·cases he
 |_=>cases he
end
def Afi:Value→Value→Bool
 | .int k x,.int k' y=>decide (k=k')&&ieq x y
 | .bool a,.bool b=>match a with
  |true=>b
  |false=>!b
 | .string x,.string y=>N0 x.data.toList y.data.toList
 | .pointer none,.pointer none=>true
 | .slice none 0 0,.slice none 0 0=>true
 | .nilFunc,.nilFunc=>true
 | .nilIface,.nilIface=>true
 | .map none,.map none=>true
 |_,_=>false
theorem Afj{x y:Value}(h:Afi x y=true):x=y:=by
 unfold Afi at h;split at h
 ·rw[Bool.and_eq_true,M6]at h
  rw[of_decide_eq_true h.1,of_decide_eq_true h.2]
 ·rename_i a b;cases a<;>cases b<;>first|rfl|cases h
 ·rw[Ou,←Y3]at h;rw[h]
 ·rfl
 ·rfl
 ·rfl
 ·rfl
 ·rfl
 ·cases h
mutual
def RS.beq:RS→RS→Bool
 | .v x,.v y=>Afi x y
 | .opq i,.opq j=>Nat.beq i j
 | .ptr i o,.ptr j p=>Nat.beq i j&&Nat.beq o p
 | .rp i k j f,.rp i' k' j' f'=>Nat.beq i i'&&Nat.beq k k'&&Nat.beq j j'&&Nat.beq f f'
 | .row i n,.row j m=>Nat.beq i j&&Nat.beq n m
 | .part i q l n,.part i' q' l' n'=>Nat.beq i i'&&Nat.beq q q'&&Nat.beq l l'&&Nat.beq n n'
 | .sl k es,.sl k' es'=>Nat.beq k k'&&RS.beqss es es'
 | .fsl k es,.fsl k' es'=>Nat.beq k k'&&RS.beqss es es'
 | .fp cs,.fp cs'=>RS.beqs cs cs'
 | .agg cs,.agg cs'=>RS.beqs cs cs'
 | .tup cs,.tup cs'=>RS.beqs cs cs'
 | .fn f a b,.fn f' a' b'=>Nat.beq f f'&&RS.beqs a a'&&RS.beqs b b'
 | .yld l,.yld l'=>Nat.beq l l'
 | .ifc t x,.ifc t' x'=>Nat.beq t t'&&RS.beq x x'
 | .mp i,.mp j=>Nat.beq i j
 |_,_=>false
def RS.beqs:List RS→List RS→Bool
 | [],[]=>true
 |x::l,y::m=>RS.beq x y&&RS.beqs l m
 |_,_=>false
def RS.beqss:List (List RS)→List (List RS)→Bool
 | [],[]=>true
 |x::l,y::m=>RS.beqs x y&&RS.beqss l m
 |_,_=>false
end
mutual
theorem To:∀{x y:RS},RS.beq x y=true→x=y
 | .v x,y,h=>by cases y<;>simp only[RS.beq,Bool.false_eq_true]at h;rw[Afj h]
 | .opq i,y,h=>by cases y<;>simp only[RS.beq,Bool.false_eq_true,Aq]at h;rw[h]
 | .ptr i o,y,h=>by cases y<;>simp only[RS.beq,Bool.false_eq_true,Bool.and_eq_true,Aq]at h;rw[h.1,h.2]
 | .rp i k j f,y,h=>by cases y<;>simp only[RS.beq,Bool.false_eq_true,Bool.and_eq_true,Aq]at h;rw[h.1.1.1,h.1.1.2,h.1.2,h.2]
 | .row i n,y,h=>by cases y<;>simp only[RS.beq,Bool.false_eq_true,Bool.and_eq_true,Aq]at h;rw[h.1,h.2]
 | .part i q l n,y,h=>by cases y<;>simp only[RS.beq,Bool.false_eq_true,Bool.and_eq_true,Aq]at h;rw[h.1.1.1,h.1.1.2,h.1.2,h.2]
 | .mt i p q,y,h=>by cases y<;>simp only[RS.beq,Bool.false_eq_true]at h
 | .sl k es,y,h=>by cases y<;>simp only[RS.beq,Bool.false_eq_true,Bool.and_eq_true,Aq]at h;rw[h.1,Nf h.2]
 | .fsl k es,y,h=>by cases y<;>simp only[RS.beq,Bool.false_eq_true,Bool.and_eq_true,Aq]at h;rw[h.1,Nf h.2]
 | .fp cs,y,h=>by cases y<;>simp only[RS.beq,Bool.false_eq_true]at h;rw[Gq h]
 | .agg cs,y,h=>by cases y<;>simp only[RS.beq,Bool.false_eq_true]at h;rw[Gq h]
 | .tup cs,y,h=>by cases y<;>simp only[RS.beq,Bool.false_eq_true]at h;rw[Gq h]
 | .fn f a b,y,h=>by cases y<;>simp only[RS.beq,Bool.false_eq_true,Bool.and_eq_true,Aq]at h;rw[h.1.1,Gq h.1.2,Gq h.2]
 | .yld l,y,h=>by cases y<;>simp only[RS.beq,Bool.false_eq_true,Aq]at h;rw[h]
 | .ifc t x,y,h=>by cases y<;>simp only[RS.beq,Bool.false_eq_true,Bool.and_eq_true,Aq]at h;rw[h.1,To h.2]
 | .mp i,y,h=>by cases y<;>simp only[RS.beq,Bool.false_eq_true,Aq]at h;rw[h]
theorem Gq:∀{x y:List RS},RS.beqs x y=true→x=y
 | [],y,h=>by cases y<;>simp only[RS.beqs,Bool.false_eq_true]at h;rfl
 |x::l,y,h=>by cases y<;>simp only[RS.beqs,Bool.false_eq_true,Bool.and_eq_true]at h;rw[To h.1,Gq h.2]
theorem Nf:∀{x y:List (List RS)},RS.beqss x y=true→x=y
 | [],y,h=>by cases y<;>simp only[RS.beqss,Bool.false_eq_true]at h;rfl
 |x::l,y,h=>by cases y<;>simp only[RS.beqss,Bool.false_eq_true,Bool.and_eq_true]at h;rw[Gq h.1,Nf h.2]
end
section
variable{P:Program}{σ0 σ:St}{c c':Cx}{h h':Sto}{n:Nat}{fr fr':Tr RS}{v:RS}
def Lv(fr:Tr RS)(d:Option Nat)(v:RS):Option (Tr RS):=match d with
 |some t=>gd (Nat.blt t 1024) (some (fr.set 10 t v))
 |none=>some fr
theorem H3{d:Option Nat}(he:Lv fr d v=some fr'):ifr c fr'=(ifr c fr).put d (v.iv c):=by
 cases d with
 |none=>simp only[Lv,Option.some.injEq]at he;subst he;rfl
 |some t=>
  simp only[Lv,Ah,A1,Option.some.injEq]at he;obtain⟨ht,rfl⟩:=he;funext x;simp only[Fr.put,Fr.up,ifr];by_cases hx:x<1024
  ·rw[if_pos hx,if_pos hx,Tr.get_set 10 _ _ _ _ (by simpa using ht) (by simpa using hx)]
   by_cases e:x=t
   ·rw[if_pos e,if_pos e]
   ·rw[if_neg e,if_neg e]
  ·rw[if_neg hx,if_neg hx,if_neg (by omega)]
theorem H4{d:Option Nat}(hf:wfr n fr)(hv:v.wf n)(he:Lv fr d v=some fr'):wfr n fr':=by
 cases d with
 |none=>simp only[Lv,Option.some.injEq]at he;subst he;exact hf
 |some t=>
  simp only[Lv,Ah,A1,Option.some.injEq]at he;obtain⟨ht,rfl⟩:=he;intro x w hx hw;rw[Tr.get_set 10 _ _ _ _ (by simpa using ht) (by simpa using hx)]at hw;split at hw
  ·injection hw with hw;subst hw;exact hv
  ·exact hf x w hx hw
def eGd(ds:List (Option Nat))(fr:Tr RS):Option (Nat×Bool)→Option Bool
 |none=>some true
 |some (j,want)=>match ds.getD j none with
  |some d=>match eEv fr (.tmp d)with
   |some (.v (.bool true))=>some want
   |some (.v (.bool false))=>some (!want)
   |some (.v (.tuple _))=>some false
   |_=>none
  |none=>none
theorem Mz{ds:List (Option Nat)}{g:Option (Nat×Bool)}{A B:Prop}{b:Bool}(he:eGd ds fr g=some b)(hA:b=true→A)(hB:b=false→B):aGd ds (ifr c fr) g A B:=by
 cases g with
 |none=>simp only[eGd,Option.some.injEq]at he;subst he;exact hA rfl
 |some g=>
  obtain⟨j,want⟩:=g;simp only[eGd]at he;simp only[aGd];split at he
  ·rename_i d hd
   simp only[hd];split at he
   ·rename_i hx
    have:=A5 (c:=c) hx;simp only[Fr.ev,RS.iv,RS.vv]at this;injection he with he;subst he;rw[this];cases want with
    |true=>exact hA rfl
    |false=>exact hB rfl
   ·rename_i hx
    have:=A5 (c:=c) hx;simp only[Fr.ev,RS.iv,RS.vv]at this;injection he with he;subst he;rw[this];cases want with
    |true=>exact hB rfl
    |false=>exact hA rfl
   ·rename_i hx
    have:=A5 (c:=c) hx;simp only[Fr.ev,RS.iv,RS.vv]at this;injection he with he;subst he;rw[this];exact hB rfl
   ·cases he
  ·cases he
def eOps(E:En)(ds:List (Option Nat)):List Oper→Tr RS→Sto→Option (Tr RS×Sto)
 | [],fr,h=>some (fr,h)
 |o::r,fr,h=>match eGd ds fr o.guard with
  |some true=>match eOp E o.op fr h with
   |some (v,h')=>match Lv fr o.dst v with
    |some fr'=>eOps E ds r fr' h'
    |none=>none
   |none=>none
  |some false=>match Lv fr o.dst (.v undef)with
   |some fr'=>eOps E ds r fr' h
   |none=>none
  |none=>none
def Kf(σ0:St)(c:Cx)(h:Sto)(fr':Tr RS)(h':Sto)(K:Fr→St→Prop):Prop:=
 ∀c' σ',Dw h.n c c'→Mt σ0 c' h' σ'→h.n≤h'.n→Ih h h'→wfr h'.n fr'→K (ifr c' fr') σ'
theorem Kf.then{h1:Sto}{K:Fr→St→Prop}{c1:Cx}(hk:Kf σ0 c h fr' h' K)(ha:Dw h.n c c1)(hn:h.n≤h1.n)(hkp:Ih h h1):Kf σ0 c1 h1 fr' h' K:=
 fun c' σ' h1' h2 h3 h4 h5=>hk c' σ' (ha.trans h1' hn) h2 (by omega) (hkp.trans h4 hn) h5
theorem Qo(c:Cx):(RS.v undef).iv c= .v undef:=by simp only[RS.iv,RS.vv]
theorem S8{E:En}(hE:Mo P E){ds:List (Option Nat)}{K:Fr→St→Prop}:∀{l:List Oper} {fr:Tr RS} {h:Sto} {c:Cx} {σ:St},eOps E ds l fr h=some (fr',h')→Mt σ0 c h σ→wfr h.n fr→Kf σ0 c h fr' h' K→J9 P ds l K (ifr c fr) σ
 | [],fr,h,c,σ,he,hM,hf,hk=>by
  simp only[eOps,Option.some.injEq,Prod.mk.injEq]at he;obtain⟨rfl,rfl⟩:=he;exact hk c σ (.refl _ _) hM (Nat.le_refl _) (.refl h) hf
 |o::r,fr,h,c,σ,he,hM,hf,hk=>by
  simp only[eOps]at he;simp only[J9];split at he
  ·rename_i hg
   refine Mz hg (fun _=>?_) (fun h=>by cases h);split at he
   ·rename_i v h1 ho
    split at he
    ·rename_i fr1 hp
     refine S7 hE hM hf ho fun c1 σ1 ha hM1 hn hkp hv=>?_;have hf1:=H4 (Ee hn hf) hv hp;rw[←Dc ha hf,←H3 hp];exact S8 hE he hM1 hf1 (hk.then ha hn hkp)
    ·cases he
   ·cases he
  ·rename_i hg
   refine Mz hg (fun h=>by cases h) (fun _=>?_);split at he
   ·rename_i fr1 hp
    have:=H3 (c:=c) hp;rw[Qo]at this;rw[←this];exact S8 hE he hM (H4 hf (by simp only[RS.wf]) hp) hk
   ·cases he
  ·cases he
structure Nt where
 i:Nat
 o:Op
 f:Tr RS
 v:RS
def Nt.q(P:Program)(c:Cx)(s:Nt):Nat×(St→Prop):=(s.i,fun σ=>Yl P s.o (ifr c s.f) σ (s.v.iv c))
def Zl(E:En)(h:Sto)(i:Nat):List Nt→Bool
 | []=>true
 |s::S=>(match Nat.beq i s.i with
  |true=>match eOp E s.o s.f h with
   |some (v,h')=>RS.beq v s.v&&Nat.beq h'.n h.n
   |none=>false
  |false=>true)&&Zl E h i S
def eChk(E:En)(h:Sto)(S:List Nt):List Nat→Bool
 | []=>true
 |i::l=>Zl E h i S&&eChk E h S l
theorem Vb{E:En}(hE:Mo P E)(hM:Mt σ0 c h σ){i:Nat}:∀{S:List Nt},(∀s∈S,cls P s.o≠2∧wfr h.n s.f)→Zl E h i S=true→aLk i (S.map (Nt.q P c)) σ
 | [],_,_=>trivial
 |s::S,hS,he=>by
  simp only[Zl,Bool.and_eq_true]at he;obtain⟨he,he2⟩:=he;refine⟨fun hi=>?_,Vb hE hM (fun t ht=>hS t (by simp[ht])) he2⟩;have hi:i=s.i:=hi;rw[Aq.2 hi]at he;simp only at he;split at he
  ·rename_i v h1 ho
   rw[Bool.and_eq_true,Aq]at he;have hv:=To he.1;have hn:=he.2;obtain⟨hc,hf⟩:=hS s (by simp);have h0:=S7 hE hM hf ho (k:=fun w _=>w=v.iv c) fun c1 σ1 ha _ _ _ hw=>I8 ha v (by rw[←hn];exact hw);obtain⟨w,hw,hy⟩:=Le hc h0;rw[hw,hv]at hy;exact hy
  ·cases he
theorem Zm{E:En}(hE:Mo P E)(hM:Mt σ0 c h σ){S:List Nt}(hS:∀s∈S,cls P s.o≠2∧wfr h.n s.f):∀{l:List Nat},eChk E h S l=true→Qx l (S.map (Nt.q P c)) σ
 | [],_=>trivial
 |i::l,he=>by
  simp only[eChk,Bool.and_eq_true]at he;exact⟨Vb hE hM hS he.1,Zm hE hM hS he.2⟩
def Lu(E:En)(ds:List (Option Nat))(l:List Oper):List PS→List Nt→Tr RS→Sto→Option (Tr RS×Sto)
 | [],_,fr,h=>some (fr,h)
 | .rd i keep::r,S,fr,h=>match l[i]? with
  |none=>none
  |some o=>match eGd ds fr o.guard with
   |some true=>match eOp E o.op fr h with
    |some (v,h')=>match Lv fr o.dst v with
     |some fr'=>Lu E ds l r (match keep with|true=>⟨i,o.op,fr,v⟩::S|false=>S) fr' h'
     |none=>none
    |none=>none
   |some false=>match Lv fr o.dst (.v undef)with
    |some fr'=>Lu E ds l r S fr' h
    |none=>none
   |none=>none
 | .ef i chk::r,S,fr,h=>match l[i]? with
  |none=>none
  |some o=>match eGd ds fr o.guard with
   |some true=>match eOp E o.op fr h with
    |some (v,h')=>match eChk E h' S chk with
     |true=>match Lv fr o.dst v with
      |some fr'=>Lu E ds l r S fr' h'
      |none=>none
     |false=>none
    |none=>none
   |some false=>match Lv fr o.dst (.v undef)with
    |some fr'=>Lu E ds l r S fr' h
    |none=>none
   |none=>none
theorem V4(ha:Dw n c c'){S:List Nt}(hS:∀s∈S,wfr n s.f∧s.v.wf n):S.map (Nt.q P c')=S.map (Nt.q P c):=
 List.map_congr_left fun s hs=>by
  obtain⟨h1,h2⟩:=hS s hs;simp only[Nt.q,Dc ha h1,I8 ha s.v h2]
theorem Hh{E:En}(hE:Mo P E){ds:List (Option Nat)}{l:List Oper}{K:Fr→St→Prop}:∀{pl:List PS} {S:List Nt} {L:Array Bool} {N:List Nat} {fr:Tr RS} {h:Sto} {c:Cx} {σ:St},C0 P l.toArray pl L N=true→Lu E ds l pl S fr h=some (fr',h')→
  (∀s∈S,cls P s.o≠2∧wfr h.n s.f∧s.v.wf h.n)→Mt σ0 c h σ→wfr h.n fr→Kf σ0 c h fr' h' K→Bo P ds l K pl (S.map (Nt.q P c)) (ifr c fr) σ
 | [],S,L,N,fr,h,c,σ,_,he,hS,hM,hf,hk=>by
  simp only[Lu,Option.some.injEq,Prod.mk.injEq]at he;obtain⟨rfl,rfl⟩:=he;exact hk c σ (.refl _ _) hM (Nat.le_refl _) (.refl h) hf
 | .rd i keep::r,S,L,N,fr,h,c,σ,hpl,he,hS,hM,hf,hk=>by
  simp only[Lu]at he;simp only[Bo];simp only[C0,Bool.and_eq_true]at hpl;obtain⟨⟨⟨_,hcls⟩,_⟩,hpl⟩:=hpl;split at he
  ·cases he
  ·rename_i o ho
   try simp only[ho]
   split at he
   ·rename_i hg
    refine Mz hg (fun _=>?_) (fun h=>by cases h);split at he
    ·rename_i v h1 hop
     split at he
     ·rename_i fr1 hp
      refine S7 hE hM hf hop fun c1 σ1 ha hM1 hn hkp hv=>?_;have hf1:=H4 (Ee hn hf) hv hp;have hS1:∀s∈S,cls P s.o≠2∧wfr h1.n s.f∧s.v.wf h1.n:=fun s hs=>⟨(hS s hs).1,Ee hn (hS s hs).2.1,G9 hn _ (hS s hs).2.2⟩;rw[←V4 ha fun s hs=>(hS s hs).2];have hcl:cls P o.op≠2:=by
       simp only[Dl,List.getElem?_toArray,ho,Bool.or_eq_true,Bool.and_eq_true,beq_iff_eq]at hcls;rcases hcls with h|h
       ·omega
       ·omega
      rw[←Dc ha hf,←H3 hp];cases keep with
      |true=>exact Hh hE (S:=⟨i,o.op,fr,v⟩::S) hpl he (fun s hs=>by
        rcases List.mem_cons.1 hs with rfl|hs
        ·exact⟨hcl,Ee hn hf,hv⟩
        ·exact hS1 s hs) hM1 hf1 (hk.then ha hn hkp)
      |false=>exact Hh hE hpl he hS1 hM1 hf1 (hk.then ha hn hkp)
     ·cases he
    ·cases he
   ·rename_i hg
    refine Mz hg (fun h=>by cases h) (fun _=>?_);split at he
    ·rename_i fr1 hp
     have:=H3 (c:=c) hp;rw[Qo]at this;rw[←this];exact Hh hE hpl he hS hM (H4 hf (by simp only[RS.wf]) hp) hk
    ·cases he
   ·cases he
 | .ef i chk::r,S,L,N,fr,h,c,σ,hpl,he,hS,hM,hf,hk=>by
  simp only[Lu]at he;simp only[Bo];simp only[C0,Bool.and_eq_true]at hpl;obtain⟨_,hpl⟩:=hpl;split at he
  ·cases he
  ·rename_i o ho
   try simp only[ho]
   split at he
   ·rename_i hg
    refine Mz hg (fun _=>?_) (fun h=>by cases h);split at he
    ·rename_i v h1 hop
     split at he
     ·rename_i hch
      split at he
      ·rename_i fr1 hp
       refine S7 hE hM hf hop fun c1 σ1 ha hM1 hn hkp hv=>?_;have hf1:=H4 (Ee hn hf) hv hp;have hS1:∀s∈S,cls P s.o≠2∧wfr h1.n s.f∧s.v.wf h1.n:=fun s hs=>⟨(hS s hs).1,Ee hn (hS s hs).2.1,G9 hn _ (hS s hs).2.2⟩;rw[←V4 ha fun s hs=>(hS s hs).2];refine⟨Zm hE hM1 (fun s hs=>⟨(hS1 s hs).1,(hS1 s hs).2.1⟩) hch,?_⟩;rw[←Dc ha hf,←H3 hp];exact Hh hE hpl he hS1 hM1 hf1 (hk.then ha hn hkp)
      ·cases he
     ·cases he
    ·cases he
   ·rename_i hg
    refine Mz hg (fun h=>by cases h) (fun _=>?_);split at he
    ·rename_i fr1 hp
     have:=H3 (c:=c) hp;rw[Qo]at this;rw[←this];exact Hh hE hpl he hS hM (H4 hf (by simp only[RS.wf]) hp) hk
    ·cases he
   ·cases he
end
end Go.Av
