/-
  The program logic: definitions and lemmas over any program.
  Conditions: none.
-/
import Derived.Deep.Quiet
import Derived.ProofKit
import Derived.OpenShut
import Derived.ShutString
import Derived.ChangeOld
import Derived.Below
import Derived.SizedLaws
import Derived.Laws.Externs
import Derived.Test.YtmifmncabejffaaGreatV1EvalLeast
set_option linter.unusedVariables false
set_option linter.unusedSimpArgs false
set_option linter.unusedSectionVars false
set_option maxRecDepth 100000
namespace Go.Av
open Go Go.RowKit
theorem Aja{fr:Fr}{d:Option Nat}{v:AV}{x:Operand}(h:∀t,d=some t→x≠.tmp t):(fr.put d v).ev x=fr.ev x:=by
 cases d with
 |none=>rfl
 |some t=>
  cases x with
  |tmp s=>
   have:s≠t:=fun e=>h t rfl (by rw[e]);simp[Fr.put,Fr.up,Fr.ev,this]
  |_=>rfl
theorem Jz{fr:Fr}{d d':Option Nat}{v v':AV}(h:∀t,d=some t→d'≠some t):(fr.put d v).put d' v'=(fr.put d' v').put d v:=by
 cases d with
 |none=>rfl
 |some t=>
  cases d' with
  |none=>rfl
  |some t'=>
   have:t≠t':=fun e=>h t rfl (by rw[e]);funext x;simp only[Fr.put,Fr.up];by_cases h1:x=t'
   ·subst h1;simp[Ne.symm this]
   ·by_cases h2:x=t
    ·subst h2;simp[h1]
    ·simp[h1,h2]
theorem Qh{e e':Operand→AV}:∀(l:List (Nat×Operand)),(∀p∈l,e p.2=e' p.2)→evs e l=evs e' l
 | [],_=>rfl
 |p::l,h=>by
  have:=Qh l fun q hq=>h q (by simp[hq]);simp only[evs,List.map_cons]at this⊢;rw[h p (by simp),this]
theorem Km{e e':Operand→AV}:∀(l:List Operand),(∀p∈l,e p=e' p)→C2 e l=C2 e' l
 | [],_=>rfl
 |p::l,h=>by
  simp only[C2];rw[h p (by simp),Km l fun q hq=>h q (by simp[hq])]
theorem Tv{α β:Type}{e e':α→β}:∀(l:List α),(∀p∈l,e p=e' p)→l.map e=l.map e'
 | [],_=>rfl
 |p::l,h=>by rw[List.map_cons,List.map_cons,h p (by simp),Tv l fun q hq=>h q (by simp[hq])]
theorem Nq{α β:Type}{e e':α→β}(o:Option α)(h:∀p,o=some p→e p=e' p):o.map e=o.map e':=by
 cases o with
 |none=>rfl
 |some p=>rw[Option.map_some,Option.map_some,h p rfl]
theorem Af8{P:Program}{o:Op}{fr fr':Fr}{σ:St}{k:AV→St→Prop}(h:∀x∈o.operands,fr.ev x=fr'.ev x):aOp P o fr σ k=aOp P o fr' σ k:=by
 have hh:=fun x=>h x;cases o with
 |move x=>simp only[aOp,h x (by simp[Op.operands])]
 |assign x=>simp only[aOp,h x (by simp[Op.operands])]
 |pick c x y=>simp only[aOp,h c (by simp[Op.operands]),h x (by simp[Op.operands]),h y (by simp[Op.operands])]
 |box e x=>simp only[aOp,h x (by simp[Op.operands])]
 |build t ps=>
  simp only[aOp];rw[Qh ps.toList fun p hp=>h p.2 (by simp only[Op.operands,List.mem_toArray];exact List.mem_map.2 ⟨p,hp,rfl⟩)]
 |buildSlice t n ps=>
  simp only[aOp];rw[Qh ps.toList fun p hp=>h p.2 (by simp only[Op.operands,List.mem_toArray];exact List.mem_map.2 ⟨p,hp,rfl⟩)]
 |load t x=>simp only[aOp,h x (by simp[Op.operands])]
 |store t x y=>simp only[aOp,h x (by simp[Op.operands]),h y (by simp[Op.operands])]
 |nilCheck x=>simp only[aOp,h x (by simp[Op.operands])]
 |binOp op t x y ty=>simp only[aOp,h x (by simp[Op.operands]),h y (by simp[Op.operands])]
 |unOp op t x=>simp only[aOp,h x (by simp[Op.operands])]
 |convert s d x=>simp only[aOp,h x (by simp[Op.operands])]
 |makeFunc fn l m=>
  simp only[aOp,Eu];rw[Km l.toList fun p hp=>h p (by simp[Op.operands];left;simpa using hp),Km m.toList fun p hp=>h p (by simp[Op.operands];right;simpa using hp)]
 |slice t x lo hi mx=>
  simp only[aOp];rw[h x (by simp[Op.operands]),Nq lo fun p hp=>h p (by simp[Op.operands,hp]),Nq hi fun p hp=>h p (by simp[Op.operands,hp]),Nq mx fun p hp=>h p (by simp[Op.operands,hp])]
 |fieldAddr s x f=>simp only[aOp,h x (by simp[Op.operands])]
 |field s x f=>simp only[aOp,h x (by simp[Op.operands])]
 |indexAddr t x ix=>simp only[aOp,h x (by simp[Op.operands]),h ix (by simp[Op.operands])]
 |index t x ix=>simp only[aOp,h x (by simp[Op.operands]),h ix (by simp[Op.operands])]
 |extract x j=>simp only[aOp,h x (by simp[Op.operands])]
 |call c=>
  obtain⟨callee,args,ts⟩:=c;have ha:args.toList.map fr.ev=args.toList.map fr'.ev:=Tv _ fun p hp=>h p (by simp[Op.operands,Call.operands];right;simpa using hp);have hb:∀p∈args.toList,fr.ev p=fr'.ev p:=fun p hp=>h p (by simp[Op.operands,Call.operands];right;simpa using hp);simp only[aOp,Ff];cases callee with
  |value y=>
   cases y with
   |func f=>simp only[ha]
   |tmp t=>
    have:=h (.tmp t) (by simp[Op.operands,Call.operands]);simp only[Fr.ev]at this;simp only[ha,this]
   |_=>rfl
  |invoke r m=>rfl
  |builtin b=>
   cases b
   case len=>
    simp only;split
    ·rename_i x t hx ht
     rw[hb x (by rw[hx];simp)]
    ·rfl
   case append=>
    simp only;split
    ·rename_i s x t1 t2 hx ht
     rw[hb x (by rw[hx];simp),hb s (by rw[hx];simp)]
    ·rfl
   all_goals simp only[ha]
 |alloc e=>rfl
 |_=>exact Yq (P:=P) (σ:=σ) (k:=k) h
theorem Ag4{i:Option TK}{σ:St}{p x:AV}:Mon fun k=>Gr i σ p x fun σ'=>k (.v undef) σ':=by
 intro k k' hk h;unfold Gr at h⊢;cases i with
 |none=>exact h
 |some i=>
  refine⟨h.1,h.2.1,?_⟩;have h:=h.2.2;split at h
  ·split at h
   ·rename_i hb;simp only[hb];exact⟨h.1,hk _ _ h.2⟩
   ·exact h.elim
  ·split at h
   ·rename_i hb;simp only[hb];exact⟨h.1,h.2.1,h.2.2.1,hk _ _ h.2.2.2⟩
   ·exact h.elim
  ·exact h.elim
theorem Ag2{q eby:Nat}{ys:List (List AV)}{σ:St}{s:AV}:Mon (Fy q eby ys σ s):=by
 intro k k' hk h;unfold Fy at h⊢;split at h
 ·exact⟨fun e=>hk _ _ (h.1 e),fun e=>⟨(h.2 e).1,fun b cap hb hc=>hk _ _ ((h.2 e).2 b cap hb hc)⟩⟩
 ·exact⟨h.1,fun e=>hk _ _ (h.2.1 e),fun e=>⟨(h.2.2 e).1,fun b cap hb hc=>hk _ _ ((h.2.2 e).2 b cap hb hc)⟩⟩
 ·rcases h with⟨h1,h2,es,h3,h4,h5⟩|⟨hp,h⟩|⟨hp,h⟩|⟨h0,pre,es,cap',h1,h2,h3,h4,h5,h6⟩
  ·exact .inl ⟨h1,h2,es,h3,h4,fun b' c' hb' hc'=>hk _ _ (h5 b' c' hb' hc')⟩
  ·refine .inr (.inl ⟨hp,?_⟩)
   split at h
   ·exact⟨h.1,h.2.1,h.2.2.1,h.2.2.2.1,fun b' c' hb' hc'=>hk _ _ (h.2.2.2.2 b' c' hb' hc')⟩
   ·exact h.elim
  ·refine .inr (.inr (.inl ⟨hp,?_⟩))
   split at h
   ·exact⟨h.1,h.2.1,h.2.2.1,h.2.2.2.1,h.2.2.2.2.1,hk _ _ h.2.2.2.2.2⟩
   ·exact h.elim
  ·exact .inr (.inr (.inr ⟨h0,pre,es,cap',h1,h2,h3,h4,h5,fun b' p' c' hb' hc'=>hk _ _ (h6 b' p' c' hb' hc')⟩))
 ·exact h.elim
theorem Aof{i:Option TK}{σ:St}{s x:AV}:Mon (aApp i σ s x):=by
 intro k k' hk h;unfold aApp at h⊢;cases i with
 |none=>exact h
 |some i=>
  simp only at h⊢;split at h
  ·obtain⟨h1,h2,h3,ys,h4,h5⟩:=h
   exact⟨h1,h2,h3,ys,h4,Ag2 k k' hk h5⟩
  ·exact h.elim
theorem Akg{i j:Option TK}{σ:St}{x:AV}:Mon (Ji i j σ x):=by
 intro k k' hk h;cases i with
 |none=>exact h
 |some i=>
  cases j with
  |none=>exact h
  |some j=>
   simp only[Ji]at h⊢;split at h
   ·exact hk _ _ h
   ·exact hk _ _ h
   ·exact fun b cap hb hc=>hk _ _ (h b cap hb hc)
   ·obtain⟨es,h1,h2,h3⟩:=h
    exact⟨es,h1,h2,hk _ _ h3⟩
   ·exact h.elim
theorem Acr{P:Program}{i:Option TK}{σ:St}{m x v:AV}:Mon fun k=>Kd P i σ m x v fun σ'=>k (.v undef) σ':=by
 intro k k' hk h;unfold Kd at h⊢;split at h
 ·split at h
  ·split at h
   ·split at h
    ·exact⟨h.1,h.2.1,hk _ _ h.2.2⟩
    ·exact h.elim
   ·exact h.elim
  ·exact h.elim
 ·exact h.elim
theorem Acp{P:Program}{i:Option TK}{σ:St}{m x:AV}:Mon (Kc P i σ m x):=by
 intro k k' hk h;unfold Kc at h⊢;split at h
 ·split at h
  ·split at h
   ·split at h
    ·exact⟨h.1,h.2.1,hk _ _ h.2.2⟩
    ·exact h.elim
   ·exact h.elim
  ·exact h.elim
 ·exact h.elim
theorem Arq{P:Program}{b:Builtin}{args:List AV}{ts:List TypeId}{σ:St}:Mon (aBI P b args ts σ):=by
 intro k k' hk h;unfold aBI at h⊢;split at h
 ·split at h
  ·exact Acp k k' hk h
  ·exact h.elim
 ·split at h
  ·exact Ad9.mon k k' hk h
  ·exact h.elim
 ·split at h
  ·exact Ad8.mon k k' hk h
  ·exact h.elim
 ·split at h
  ·unfold aClear at h⊢
   split at h
   ·exact h.elim
   ·split at h
    ·split at h
     ·exact hk _ _ h
     ·rename_i b p n _
      by_cases hn:n=0
      ·rw[if_pos hn]at h⊢
       exact hk _ _ h
      ·rw[if_neg hn]at h⊢
       split at h
       ·exact⟨h.1,h.2.1,h.2.2.1,h.2.2.2.1,h.2.2.2.2.1,hk _ _ h.2.2.2.2.2⟩
       ·exact h.elim
     ·exact h.elim
    ·exact h.elim
  ·exact h.elim
 ·split at h
  ·unfold aCap at h⊢
   split at h
   ·exact hk _ _ h
   ·exact h.elim
  ·exact h.elim
 ·split at h
  ·unfold Uw at h⊢
   split at h
   ·obtain⟨h1,es,cap,ys,m,h2,h3,h4,h5,h6,h7⟩:=h
    exact⟨h1,es,cap,ys,m,h2,h3,h4,h5,h6,hk _ _ h7⟩
   ·exact h.elim
  ·exact h.elim
 ·exact h.elim
theorem Akf{i j:Option TK}{σ:St}{s x:AV}:Mon (aAppN i j σ s x):=by
 intro k k' hk h;unfold aAppN at h⊢;split at h
 ·obtain⟨h1,h2,h3,h4,h5,h6,es,frz,cap',h7,h8,h9⟩:=h
  exact⟨h1,h2,h3,h4,h5,h6,es,frz,cap',h7,h8,fun b' c' hb hc=>hk _ _ (h9 b' c' hb hc)⟩
 ·exact h.elim
theorem Akh{P:Program}{o:Op}{fr:Fr}{σ:St}:Mon (Dq P o fr σ):=by
 intro k k' hk h;unfold Dq at h⊢;split at h
 ·unfold Nz at h⊢
  split at h
  ·split at h
   ·split at h
    ·exact⟨h.1,h.2.1,h.2.2.1,h.2.2.2.1,h.2.2.2.2.1,h.2.2.2.2.2.1,fun b hb=>hk _ _ (h.2.2.2.2.2.2 b hb)⟩
    ·exact h.elim
   ·exact h.elim
  ·exact h.elim
 ·unfold P5 at h⊢
  split at h
  ·split at h
   ·exact⟨h.1,h.2.1,hk _ _ h.2.2⟩
   ·exact h.elim
  ·exact h.elim
 ·exact fun b hb=>hk _ _ (h b hb)
 ·exact Zc.mon k k' hk h
 ·exact Acr k k' hk h
 ·exact Aea.mon k k' hk h
 ·exact Aed.mon k k' hk h
 ·exact h.elim
theorem Ag3{P:Program}{x:AV}{args:List AV}{σ:St}:Mon (Kb P x args σ):=by
 intro k k' hk h;unfold Kb at h⊢;split at h
 ·exact⟨h.1,h.2.1,h.2.2.mono hk⟩
 ·exact h.mono hk
 ·exact h.elim
theorem Ke{P:Program}{o:Op}{fr:Fr}{σ:St}:Mon (aOp P o fr σ):=by
 have hm:=Akh (P:=P) (o:=o) (fr:=fr) (σ:=σ);cases o with
 |move x=>exact fun k k' hk h=>hk _ _ h
 |assign x=>exact fun k k' hk h=>hk _ _ h
 |pick c x y=>exact Ze.mon
 |alloc e=>
  intro k k' hk h;simp only[aOp,K5]at h⊢;split at h
  ·exact fun b hb=>hk _ _ (h b hb)
  ·exact h.elim
 |box e x=>exact fun k k' hk h=>⟨h.1,fun b hb=>hk _ _ (h.2 b hb)⟩
 |build t ps=>exact U4.mon
 |buildSlice t n ps=>exact Sy.mon
 |load t x=>exact Zb.mon
 |store t x y=>exact Ag4
 |nilCheck x=>exact Aeb.mon
 |binOp op t x y ty=>exact fun k k' hk h=>Aki (fun v=>hk v σ) h
 |unOp op t x=>exact Aig.mon
 |convert s d x=>exact Akg
 |makeFunc fn l m=>exact Y9.mon
 |slice t x lo hi mx=>exact Aec.mon
 |fieldAddr s x f=>exact Y8.mon
 |field s x f=>exact Ad5.mon
 |indexAddr t x ix=>exact(Za (σ:=σ)).mon
 |index t x ix=>exact Ad6.mon
 |extract x j=>exact Ad4.mon
 |call c=>
  obtain⟨callee,args,ts⟩:=c;intro k k' hk h;simp only[aOp,Ff]at h⊢;cases callee with
  |value y=>
   cases y with
   |func f=>exact AT.mono h hk
   |tmp t=>exact Ag3 k k' hk h
   |_=>exact h.elim
  |invoke r m=>exact h.elim
  |builtin b=>
   cases b<;>simp only at h⊢
   case len=>
    split at h
    ·exact Ad7.mon k k' hk h
    ·exact h.elim
   case append=>
    split at h
    ·split at h
     ·rename_i hn;rw[if_pos hn];exact Aof k k' hk h
     ·rename_i hn;rw[if_neg hn];exact Akf k k' hk h
    ·exact h.elim
   all_goals exact Arq k k' hk h
 |_=>exact fun k k' hk h=>hm k k' hk h
def cls(P:Program):Op→Nat
 | .move _| .assign _| .pick .. | .build .. | .buildSlice .. | .nilCheck _| .unOp .. | .makeFunc .. | .fieldAddr .. | .field .. | .indexAddr .. | .index .. | .extract .. =>0
 | .load .. | .slice .. | .lookup .. =>1
 | .makeInterface .. =>0
 | .typeAssert _ _ _ ok=>if ok then 2 else 0
 | .binOp _ t _ _ _=>if Fj P t then 2 else 0
 | .call c=>match c.callee with
  | .builtin .len| .builtin .min| .builtin .max=>0
  |_=>2
 | .convert s d _=>match tk P s,tk P d with
  |some i,some j=>match i.td,j.td with
   | .int _,.int _=>0
   | .str,.str=>0
   | .sl q _ _ byt,.str=>if q=1∧byt=true then 1 else 2
   |_,_=>2
  |_,_=>2
 |_=>2
def Yl(P:Program)(o:Op)(fr:Fr)(σ:St)(v:AV):Prop:=∀k:AV→St→Prop,k v σ→aOp P o fr σ k
theorem Det.yl{T:(AV→Prop)→Prop}(h:Det T){σ:St}{k:AV→St→Prop}(ht:T fun v=>k v σ):∃v,k v σ∧∀k':AV→St→Prop,k' v σ→T fun v=>k' v σ:=by
 obtain⟨v,h1,h2⟩:=h _ ht;exact⟨v,h1,fun k' hk=>h2 _ hk⟩
theorem N0{P:Program}{o:Op}{fr:Fr}{σ:St}{k:AV→St→Prop}(hc:cls P o≠2)(h:aOp P o fr σ k):∃v,k v σ∧Yl P o fr σ v:=by
 cases o with
 |move x=>exact⟨_,h,fun k' hk=>hk⟩
 |assign x=>exact⟨_,h,fun k' hk=>hk⟩
 |pick c x y=>exact Ze.yl h
 |build t ps=>exact U4.yl h
 |buildSlice t n ps=>exact Sy.yl h
 |load t x=>exact Zb.yl h
 |nilCheck x=>exact Aeb.yl h
 |binOp op t x y ty=>
  have hsl:Fj P t=false:=by
   simp only[cls]at hc;cases hq:Fj P t with
   |false=>rfl
   |true=>rw[hq]at hc;exact absurd rfl hc
  exact(Al8 hsl).yl h
 |unOp op t x=>exact Aig.yl h
 |makeFunc fn l m=>exact Y9.yl h
 |slice t x lo hi mx=>exact Aec.yl h
 |fieldAddr s x f=>exact Y8.yl h
 |field s x f=>exact Ad5.yl h
 |indexAddr t x ix=>exact(Za (σ:=σ)).yl h
 |index t x ix=>exact Ad6.yl h
 |extract x j=>exact Ad4.yl h
 |convert s d x=>
  unfold Yl;simp only[aOp]at h⊢;simp only[cls]at hc;cases hi:tk P s with
  |none=>rw[hi]at h;exact h.elim
  |some i=>
   cases hj:tk P d with
   |none=>rw[hi,hj]at h;exact h.elim
   |some j=>
    obtain⟨ag,sz,zr,td⟩:=i;obtain⟨ag',sz',zr',td'⟩:=j;rw[hi,hj]at h;rw[hi,hj]at hc;cases td<;>cases td'<;>try (exact absurd rfl hc)
    ·generalize fr.ev x=y at h⊢
     cases y with
     |v y=>cases y with
      |int ik m=>exact⟨_,h,fun k' hk=>hk⟩
      |_=>exact False.elim h
     |_=>exact False.elim h
    ·generalize fr.ev x=y at h⊢
     cases y with
     |v y=>cases y with
      |string s=>exact⟨_,h,fun k' hk=>hk⟩
      |_=>exact False.elim h
     |_=>exact False.elim h
    ·rename_i q eby ez byt
     obtain⟨rfl,rfl⟩:q=1∧byt=true:=by
      have hc2:(if q=1∧byt=true then 1 else 2)≠2:=hc;split at hc2
      ·assumption
      ·exact absurd rfl hc2
     obtain⟨es,h1,h2,h3⟩:=h;exact⟨_,h3,fun k' hk=>⟨es,h1,h2,hk⟩⟩
 |call c=>
  obtain⟨callee,args,ts⟩:=c;unfold Yl;simp only[aOp,Ff]at h⊢;simp only[cls]at hc;split at hc
  ·simp only at h⊢
   split at h
   ·exact Ad7.yl h
   ·exact h.elim
  ·simp only[aBI]at h⊢
   split at h
   ·exact Ad9.yl h
   ·exact h.elim
  ·simp only[aBI]at h⊢
   split at h
   ·exact Ad8.yl h
   ·exact h.elim
  ·exact absurd rfl hc
 |lookup t m x ok=>
  unfold Yl;simp only[aOp,Dq]at h⊢;exact Zc.yl h
 |makeInterface t x=>
  unfold Yl;simp only[aOp,Dq]at h⊢;exact Aea.yl h
 |typeAssert x t u ok=>
  cases ok with
  |true=>exact absurd rfl hc
  |false=>
   unfold Yl;simp only[aOp,Dq]at h⊢;exact Aed.yl h
 |_=>exact absurd rfl hc
theorem Yl.any{P:Program}{o:Op}{fr:Fr}{σ:St}{v:AV}(hc:cls P o=0)(h:Yl P o fr σ v)(σ':St):Yl P o fr σ' v:=by
 have tr:∀(T:(AV→Prop)→Prop),(∀k:AV→St→Prop,k v σ→T fun v=>k v σ)→∀k:AV→St→Prop,k v σ'→T fun v=>k v σ':=fun T h k hk=>h (fun v _=>k v σ') hk;cases o with
 |move x=>exact tr (fun K=>K (fr.ev x)) h
 |assign x=>exact tr (fun K=>K (fr.ev x)) h
 |pick c x y=>exact tr (Jm (fr.ev c) (fr.ev x) (fr.ev y)) h
 |build t ps=>exact tr (H6 (tk P t) (evs fr.ev ps.toList)) h
 |buildSlice t n ps=>exact tr (He (tk P t) n (evs fr.ev ps.toList)) h
 |nilCheck x=>exact tr (P6 (fr.ev x)) h
 |binOp op t x y ty=>exact tr (D5 P op t (fr.ev x) (fr.ev y)) h
 |unOp op t x=>exact tr (aUn op (fr.ev x)) h
 |makeFunc fn l m=>exact tr (Eu fn fr.ev l.toList m.toList) h
 |fieldAddr s x f=>exact tr (Iz (tk P s) f (fr.ev x)) h
 |field s x f=>exact tr (Nx (tk P s) f (fr.ev x)) h
 |indexAddr t x ix=>exact tr (Fq (tk P t) σ (fr.ev x) (fr.ev ix)) h
 |index t x ix=>exact tr (Sa (tk P t) (fr.ev x) (fr.ev ix)) h
 |extract x j=>exact tr (Ho (fr.ev x) j) h
 |convert s d x=>
  unfold Yl at h⊢;simp only[aOp]at h⊢;simp only[cls]at hc;cases hi:tk P s with
  |none=>rw[hi]at hc;simp at hc
  |some i=>
   cases hj:tk P d with
   |none=>rw[hi,hj]at hc;simp at hc
   |some j=>
    obtain⟨ag,sz,zr,td⟩:=i;obtain⟨ag',sz',zr',td'⟩:=j;rw[hi,hj]at h;rw[hi,hj]at hc;cases td<;>cases td'<;>try (cases hc;done)
    ·generalize fr.ev x=y at h⊢
     cases y with
     |v y=>cases y with
      |int ik m=>exact tr (fun K=>K _) h
      |_=>exact False.elim (h (fun _ _=>True) trivial)
     |_=>exact False.elim (h (fun _ _=>True) trivial)
    ·generalize fr.ev x=y at h⊢
     cases y with
     |v y=>cases y with
      |string s=>exact tr (fun K=>K _) h
      |_=>exact False.elim (h (fun _ _=>True) trivial)
     |_=>exact False.elim (h (fun _ _=>True) trivial)
    ·rename_i q eby ez byt
     have hc2:(if q=1∧byt=true then 1 else 2)=0:=hc;split at hc2<;>cases hc2
 |call c=>
  obtain⟨callee,args,ts⟩:=c;unfold Yl at h⊢;simp only[aOp,Ff]at h⊢;simp only[cls]at hc;split at hc
  ·simp only at h⊢
   split at h
   ·rename_i x t hx ht
    exact tr (K7 (tk P t) (fr.ev x)) h
   ·exact False.elim (h (fun _ _=>True) trivial)
  ·simp only[aBI]at h⊢
   split at h
   ·exact tr (aMin _ _) h
   ·exact False.elim (h (fun _ _=>True) trivial)
  ·simp only[aBI]at h⊢
   split at h
   ·exact tr (aMax _ _) h
   ·exact False.elim (h (fun _ _=>True) trivial)
  ·cases hc
 |makeInterface t x=>
  unfold Yl at h⊢;simp only[aOp,Dq]at h⊢;exact tr (aMkI P t (fr.ev x)) h
 |typeAssert x t u ok=>
  cases ok with
  |true=>cases hc
  |false=>
   unfold Yl at h⊢;simp only[aOp,Dq]at h⊢;exact tr (aTyA P u (fr.ev x)) h
 |_=>cases hc
class Bx (α:Type) where
 val:α
def hid{α:Type}[c:Bx α]:α:=c.val
@[go_sem] theorem Aus{α β:Type}{f:α→β}{a:α}:(@hid (α→β) ⟨f⟩) a=f a:=_root_.id rfl
section
variable{P:Program}
@[go_sem] theorem Axy{K:AK}{fr:Fr}{σ:St}:A6 P .skip K fr σ=K .normal fr σ:=_root_.id rfl
@[go_sem] theorem Atn{id:Nat}{l:List Oper}{K:AK}{fr:Fr}{σ:St}:A6 P (.region id l.toArray false) K fr σ=My P (l.map (·.dst)) l (@hid _ ⟨K .normal⟩) fr σ:=_root_.id rfl
@[go_sem] theorem Axo{id:Nat}{ops:Array Oper}{K:AK}{fr:Fr}{σ:St}:A6 P (.region id ops true) K fr σ=Ux P ops (@hid _ ⟨K .normal⟩) fr σ:=_root_.id rfl
@[go_sem] theorem Bag{x y:Code}{K:AK}{fr:Fr}{σ:St}:A6 P (.seq x y) K fr σ=A6 P x (@hid _ ⟨AK.then (A6 P y K) K⟩) fr σ:=_root_.id rfl
@[go_sem] theorem Axm{c:Operand}{x y:Code}{K:AK}{fr:Fr}{σ:St}:A6 P (.cond c x y) K fr σ=Yp (fr.ev c) (@hid _ ⟨A6 P x K fr σ⟩) (@hid _ ⟨A6 P y K fr σ⟩):=_root_.id rfl
theorem Aa{id:Nat}{x:Code}{K:AK}{fr:Fr}{σ:St}:A6 P (.block id x) K fr σ=A6 P x (@hid _ ⟨AK.block id K⟩) fr σ:=_root_.id rfl
@[go_sem] theorem Axw{x:Code}{K:AK}{fr:Fr}{σ:St}:A6 P (.loop x) K fr σ=Ah2 (@hid _ ⟨A6 P x⟩) K fr σ:=_root_.id rfl
@[go_sem] theorem Axp{id:Nat}{K:AK}{fr:Fr}{σ:St}:A6 P (.exit id) K fr σ=K (.exit id) fr σ:=_root_.id rfl
@[go_sem] theorem Avz{x:Code}{K:AK}{fr:Fr}{σ:St}:A6 P (.scope x) K fr σ=A6 P x (@hid _ ⟨AK.noGoto K⟩) fr σ:=_root_.id rfl
@[go_sem] theorem Baf{K:AK}{fr:Fr}{σ:St}:A6 P .ret K fr σ=K .ret fr σ:=_root_.id rfl
@[go_sem] theorem Avy{g:Operand}{l:List Nat}{x y:Code}{K:AK}{fr:Fr}{σ:St}:A6 P (.rangeFunc g l.toArray x y) K fr σ=K8 P (fr.ev g) l x y K fr σ:=_root_.id rfl
@[go_sem] theorem Avx{l:Nat}{K:AK}{fr:Fr}{σ:St}:A6 P (.label l) K fr σ=K .normal fr σ:=_root_.id rfl
@[go_sem] theorem Atq{A:Fr→St→Prop}{K:AK}{fr:Fr}{σ:St}:AK.then A K .normal fr σ=A fr σ:=_root_.id rfl
@[go_sem] theorem Asr{A:Fr→St→Prop}{K:AK}:AK.then A K .normal=A:=_root_.id rfl
@[go_sem] theorem Ato{A:Fr→St→Prop}{K:AK}{id:Nat}{fr:Fr}{σ:St}:AK.then A K (.exit id) fr σ=K (.exit id) fr σ:=_root_.id rfl
@[go_sem] theorem Atp{A:Fr→St→Prop}{K:AK}{id:Nat}{fr:Fr}{σ:St}:AK.then A K (.goto id) fr σ=K (.goto id) fr σ:=_root_.id rfl
@[go_sem] theorem Atr{A:Fr→St→Prop}{K:AK}{fr:Fr}{σ:St}:AK.then A K .ret fr σ=K .ret fr σ:=_root_.id rfl
@[go_sem] theorem Asp{K:AK}{id:Nat}{fr:Fr}{σ:St}:AK.block id K .normal fr σ=K .normal fr σ:=_root_.id rfl
@[go_sem] theorem Arx{K:AK}{id:Nat}:AK.block id K .normal=K .normal:=_root_.id rfl
@[go_sem] theorem Asn{K:AK}{id j:Nat}{fr:Fr}{σ:St}:AK.block id K (.exit j) fr σ=if j=id then K .normal fr σ else K (.exit j) fr σ:=_root_.id rfl
@[go_sem] theorem Aso{K:AK}{id j:Nat}{fr:Fr}{σ:St}:AK.block id K (.goto j) fr σ=K (.goto j) fr σ:=_root_.id rfl
@[go_sem] theorem Asq{K:AK}{id:Nat}{fr:Fr}{σ:St}:AK.block id K .ret fr σ=K .ret fr σ:=_root_.id rfl
@[go_sem] theorem Axq{Q:AV→St→Prop}{l:List ResultVar}{fr:Fr}{σ:St}:AK.fn P Q l .normal fr σ=Dr P Q l fr σ:=_root_.id rfl
@[go_sem] theorem Axr{Q:AV→St→Prop}{l:List ResultVar}{fr:Fr}{σ:St}:AK.fn P Q l .ret fr σ=Dr P Q l fr σ:=_root_.id rfl
@[go_sem] theorem Bad{ds:List (Option Nat)}{K:Fr→St→Prop}{fr:Fr}{σ:St}:My P ds [] K fr σ=K fr σ:=_root_.id rfl
@[go_sem] theorem Axn{ds:List (Option Nat)}{d:Option Nat}{op:Op}{t:TypeId}{p:String}{e:Array Edge}{l:List Oper}{K:Fr→St→Prop}{fr:Fr}{σ:St}:
  My P ds ({dst:=d,op:=op,type:=t,pos:=p,after:=e,guard:=none}::l) K fr σ=aOp P op fr σ (@hid _ ⟨fun v σ'=>My P ds l K (fr.put d v) σ'⟩):=_root_.id rfl
@[go_sem] theorem Avv{ds:List (Option Nat)}{d:Option Nat}{op:Op}{t:TypeId}{p:String}{e:Array Edge}{g:Nat×Bool}{l:List Oper}{K:Fr→St→Prop}{fr:Fr}{σ:St}:
  My P ds ({dst:=d,op:=op,type:=t,pos:=p,after:=e,guard:=some g}::l) K fr σ=aGd ds fr (some g) (@hid _ ⟨aOp P op fr σ (@hid _ ⟨fun v σ'=>My P ds l K (fr.put d v) σ'⟩)⟩) (@hid _ ⟨My P ds l K (fr.put d (.v undef)) σ⟩):=_root_.id rfl
def aGd1(x:AV)(want:Bool)(A B:Prop):Prop:=
 match x with
 | .v (.bool b)=>if want then aIf b A B else aIf b B A
 | .v _=>B
 |_=>False
@[go_sem] theorem Bac{want:Bool}{A B:Prop}:aGd1 (.v undef) want A (@hid _ ⟨B⟩)=B:=_root_.id rfl
@[go_sem] theorem Baa{d:Nat}{ds:List (Option Nat)}{fr:Fr}{want:Bool}{A B:Prop}:aGd (some d::ds) fr (some (0,want)) A B=aGd1 (fr d) want A B:=_root_.id rfl
@[go_sem] theorem Bab{d:Option Nat}{ds:List (Option Nat)}{fr:Fr}{j:Nat}{want:Bool}{A B:Prop}:aGd (d::ds) fr (some (j+1,want)) A B=aGd ds fr (some (j,want)) A B:=_root_.id rfl
@[go_sem] theorem Axt{b:Bool}{A B:Prop}:aGd1 (.v (.bool b)) true A B=aIf b A B:=_root_.id rfl
@[go_sem] theorem Axs{b:Bool}{A B:Prop}:aGd1 (.v (.bool b)) false A B=aIf b B A:=_root_.id rfl
@[go_sem] theorem Avu{b:Bool}{A B:Prop}:Yp (.v (.bool b)) A B=aIf b A B:=_root_.id rfl
@[go_sem] theorem Axv{A B:Prop}:aIf true (@hid _ ⟨A⟩) B=A:=_root_.id rfl
@[go_sem] theorem Axu{A B:Prop}:aIf false A (@hid _ ⟨B⟩)=B:=by simp[aIf,hid]
@[go_sem] theorem Atm{b:Bool}{A B:Prop}:aIf (!b) A B=aIf b B A:=by cases b<;>simp[aIf]
theorem aIf_by{p:Prop}[Decidable p]{A B:Prop}(h1:p→A)(h2:¬p→B):aIf (decide p) (@hid _ ⟨A⟩) (@hid _ ⟨B⟩):=by
 unfold aIf;by_cases h:p
 ·rw[if_pos (by simpa using h)];exact h1 h
 ·rw[if_neg (by simpa using h)];exact h2 h
theorem aIf_bool{b:Bool}{A B:Prop}(h1:b=true→A)(h2:b=false→B):aIf b (@hid _ ⟨A⟩) (@hid _ ⟨B⟩):=by
 unfold aIf;cases b
 ·rw[if_neg (by simp)];exact h2 rfl
 ·rw[if_pos rfl];exact h1 rfl
@[go_sem] theorem r_up{fr:Fr}{t x:Nat}{v:AV}:(fr.up t v) x=if x=t then v else fr x:=_root_.id rfl
@[go_sem] theorem Bae{fr:Fr}{t:Nat}{v:AV}:fr.put (some t) v=fr.up t v:=_root_.id rfl
@[go_sem] theorem Axx{fr:Fr}{v:AV}:fr.put none v=fr:=_root_.id rfl
@[go_sem] theorem Az8{fr:Fr}{t:Nat}:fr.ev (.tmp t)=fr t:=_root_.id rfl
@[go_sem] theorem Az6{fr:Fr}{v:Value}:fr.ev (.const v)=ofConst v:=_root_.id rfl
@[go_sem] theorem Az7{fr:Fr}{f:Nat}:fr.ev (.func f)= .v (.func (.func f) #[] #[]):=_root_.id rfl
@[go_sem] theorem r_c1{k:IntKind}{x:Int}:ofConst (.int k x)= .v (.int k x):=_root_.id rfl
@[go_sem] theorem r_c2{x:Bool}:ofConst (.bool x)= .v (.bool x):=_root_.id rfl
@[go_sem] theorem r_c3{x:ByteArray}:ofConst (.string x)= .v (.string x):=_root_.id rfl
@[go_sem] theorem r_c4{x:Option Addr}:ofConst (.pointer x)= .v (.pointer x):=_root_.id rfl
@[go_sem] theorem r_c5{x:Option Addr}{l c:Nat}:ofConst (.slice x l c)= .v (.slice x l c):=_root_.id rfl
@[go_sem] theorem r_c6{l:List Value}:ofConst (.agg l.toArray)= .agg (l.map .v):=_root_.id rfl
@[go_sem] theorem r_c7{x:Option Nat}:ofConst (.map x)= .v (.map x):=_root_.id rfl
@[go_sem] theorem r_c8:ofConst .nilFunc= .v .nilFunc:=_root_.id rfl
@[go_sem] theorem r_c9:ofConst .nilIface= .v .nilIface:=_root_.id rfl
@[go_sem] theorem Avw{args:List AV}{t:Nat}:I4 args t=args.getD t (.v undef):=_root_.id rfl
def aIfT(b:Bool)(A B:Prop):Prop:=if b=true then A else B
@[go_sem] theorem Aza{A B:Prop}:aIfT true (@hid _ ⟨A⟩) B=A:=_root_.id rfl
@[go_sem] theorem Ay9{A B:Prop}:aIfT false A (@hid _ ⟨B⟩)=B:=_root_.id rfl
section
variable{fr:Fr}{σ:St}{k:AV→St→Prop}{K:AV→Prop}
@[go_sem] theorem Axg{x:Operand}:aOp P (.move x) fr σ k=k (fr.ev x) σ:=_root_.id rfl
@[go_sem] theorem Ati{x:Operand}:aOp P (.assign x) fr σ k=k (fr.ev x) σ:=_root_.id rfl
@[go_sem] theorem Axh{c x y:Operand}:aOp P (.pick c x y) fr σ k=Jm (fr.ev c) (fr.ev x) (fr.ev y) (@hid _ ⟨fun v=>k v σ⟩):=_root_.id rfl
@[go_sem] theorem Avl{e:TypeId}:aOp P (.alloc e) fr σ k=K5 (tk P e) σ k:=_root_.id rfl
@[go_sem] theorem Azs{e:TypeId}{x:Operand}:aOp P (.box e x) fr σ k=aBox (fr.ev x) σ k:=_root_.id rfl
@[go_sem] theorem Avm{t:TypeId}{l:List (Nat×Operand)}:aOp P (.build t l.toArray) fr σ k=H6 (tk P t) (evs fr.ev l) (@hid _ ⟨fun v=>k v σ⟩):=_root_.id rfl
@[go_sem] theorem Atj{t:TypeId}{n:Nat}{l:List (Nat×Operand)}:aOp P (.buildSlice t n l.toArray) fr σ k=He (tk P t) n (evs fr.ev l) (@hid _ ⟨fun v=>k v σ⟩):=_root_.id rfl
@[go_sem] theorem Axd{t:TypeId}{x:Operand}:aOp P (.load t x) fr σ k=C8 (tk P t) σ (fr.ev x) (@hid _ ⟨fun v=>k v σ⟩):=_root_.id rfl
@[go_sem] theorem Avq{t:TypeId}{x y:Operand}:aOp P (.store t x y) fr σ k=Gr (tk P t) σ (fr.ev x) (fr.ev y) (@hid _ ⟨fun σ'=>k (.v undef) σ'⟩):=_root_.id rfl
@[go_sem] theorem Az1{x:Operand}:aOp P (.nilCheck x) fr σ k=P6 (fr.ev x) (@hid _ ⟨fun v=>k v σ⟩):=_root_.id rfl
@[go_sem] theorem Azr{op:BinOp}{t ty:TypeId}{x y:Operand}:aOp P (.binOp op t x y ty) fr σ k=D5 P op t (fr.ev x) (fr.ev y) (@hid _ ⟨fun v=>k v σ⟩):=_root_.id rfl
@[go_sem] theorem o_un{op:UnOp}{t:TypeId}{x:Operand}:aOp P (.unOp op t x) fr σ k=aUn op (fr.ev x) (@hid _ ⟨fun v=>k v σ⟩):=_root_.id rfl
@[go_sem] theorem Aw8{s d:TypeId}{x:Operand}:aOp P (.convert s d x) fr σ k=Ji (tk P s) (tk P d) σ (fr.ev x) k:=_root_.id rfl
@[go_sem] theorem Axb{fn:Fn}{l m:List Operand}:aOp P (.makeFunc fn l.toArray m.toArray) fr σ k=Eu fn fr.ev l m (@hid _ ⟨fun v=>k v σ⟩):=_root_.id rfl
@[go_sem] theorem Az2{t:TypeId}{x:Operand}{lo hi mx:Option Operand}:aOp P (.slice t x lo hi mx) fr σ k=aSli (tk P t) σ (fr.ev x) (lo.map fr.ev) (hi.map fr.ev) (mx.map fr.ev) (@hid _ ⟨fun v=>k v σ⟩):=_root_.id rfl
@[go_sem] theorem Axa{s f:Nat}{x:Operand}:aOp P (.fieldAddr s x f) fr σ k=Iz (tk P s) f (fr.ev x) (@hid _ ⟨fun v=>k v σ⟩):=_root_.id rfl
@[go_sem] theorem Azv{s f:Nat}{x:Operand}:aOp P (.field s x f) fr σ k=Nx (tk P s) f (fr.ev x) (@hid _ ⟨fun v=>k v σ⟩):=_root_.id rfl
@[go_sem] theorem Axc{t:TypeId}{x ix:Operand}:aOp P (.indexAddr t x ix) fr σ k=Fq (tk P t) σ (fr.ev x) (fr.ev ix) (@hid _ ⟨fun v=>k v σ⟩):=_root_.id rfl
@[go_sem] theorem Azw{t:TypeId}{x ix:Operand}:aOp P (.index t x ix) fr σ k=Sa (tk P t) (fr.ev x) (fr.ev ix) (@hid _ ⟨fun v=>k v σ⟩):=_root_.id rfl
@[go_sem] theorem Azu{x:Operand}{j:Nat}:aOp P (.extract x j) fr σ k=Ho (fr.ev x) j (@hid _ ⟨fun v=>k v σ⟩):=_root_.id rfl
@[go_sem] theorem Avn{f:FuncId}{l:List Operand}{ts:Array TypeId}:aOp P (.call {callee:=.value (.func f),args:=l.toArray,argTypes:=ts}) fr σ k=AT P f (l.map fr.ev) σ k:=_root_.id rfl
@[go_sem] theorem Avo{t:Nat}{l:List Operand}{ts:Array TypeId}:aOp P (.call {callee:=.value (.tmp t),args:=l.toArray,argTypes:=ts}) fr σ k=Kb P (fr t) (l.map fr.ev) σ k:=_root_.id rfl
@[go_sem] theorem Aq2{f:FuncId}{l m:List Value}{args:List AV}:Kb P (.v (.func (.func f) l.toArray m.toArray)) args σ k=AT P f (l.map .v++args++m.map .v) σ k:=_root_.id rfl
@[go_sem] theorem Aph{l:Nat}{args:List AV}:Kb P (.v (.func (.yield l) #[] #[])) args σ k=YC P l args σ k:=by simp[Kb]
@[go_sem] theorem Arw{fr:Fr}{p:Nat}{ps:List Nat}{a:AV}{as:List AV}:Ph fr (p::ps) (a::as)=Ph (fr.up p a) ps as:=_root_.id rfl
@[go_sem] theorem Asm{fr:Fr}{as:List AV}:Ph fr [] as=fr:=by cases as<;>rfl
@[go_sem] theorem Azx{x:Operand}{t:TypeId}:aOp P (.call {callee:=.builtin .len,args:=#[x],argTypes:=#[t]}) fr σ k=K7 (tk P t) (fr.ev x) (@hid _ ⟨fun v=>k v σ⟩):=_root_.id rfl
@[go_sem] theorem Azq{s x:Operand}{t1 t2:TypeId}:aOp P (.call {callee:=.builtin .append,args:=#[s,x],argTypes:=#[t1,t2]}) fr σ k=aIfT (Np (tk P t2)) (@hid _ ⟨aApp (tk P t1) σ (fr.ev s) (fr.ev x) k⟩) (@hid _ ⟨aAppN (tk P t1) (tk P t2) σ (fr.ev s) (fr.ev x) k⟩):=_root_.id rfl
@[go_sem] theorem Azt{x:Operand}{t:TypeId}:aOp P (.call {callee:=.builtin .cap,args:=#[x],argTypes:=#[t]}) fr σ k=aCap (tk P t) (fr.ev x) (@hid _ ⟨fun v=>k v σ⟩):=_root_.id rfl
@[go_sem] theorem Ayg{ag byt:Bool}{sz q eby:Nat}{zr ez:List Value}{ad:Option Addr}{n c:Nat}:aCap (some ⟨ag,sz,zr,.sl q eby ez byt⟩) (.v (.slice ad n c)) K=K (.v (.int .i64 c)):=_root_.id rfl
@[go_sem] theorem Aw9{x y:Operand}{t t2:TypeId}:aOp P (.call {callee:=.builtin .copy,args:=#[x,y],argTypes:=#[t,t2]}) fr σ k=Uw (tk P t) σ (fr.ev x) (fr.ev y) k:=_root_.id rfl
@[go_sem] theorem Azz{x y:Operand}{ts:Array TypeId}:aOp P (.call {callee:=.builtin .min,args:=#[x,y],argTypes:=ts}) fr σ k=aMin (fr.ev x) (fr.ev y) (@hid _ ⟨fun v=>k v σ⟩):=_root_.id rfl
@[go_sem] theorem Azy{x y:Operand}{ts:Array TypeId}:aOp P (.call {callee:=.builtin .max,args:=#[x,y],argTypes:=ts}) fr σ k=aMax (fr.ev x) (fr.ev y) (@hid _ ⟨fun v=>k v σ⟩):=_root_.id rfl
@[go_sem] theorem Azl{i j:IntKind}{x y:Int}:aMin (.v (.int i x)) (.v (.int j y)) K=K (.v (.int i (min x y))):=_root_.id rfl
@[go_sem] theorem Azk{i j:IntKind}{x y:Int}:aMax (.v (.int i x)) (.v (.int j y)) K=K (.v (.int i (max x y))):=_root_.id rfl
@[go_sem] theorem Au9{ik:IntKind}{x y:Int}:Fz .shl ik x y K=(0≤y∧K (.v (.int ik (ik.wrap (x*2^min y.toNat ik.bits))))):=_root_.id rfl
@[go_sem] theorem Ava{ik:IntKind}{x y:Int}:Fz .shr ik x y K=(0≤y∧K (.v (.int ik (x.fdiv (2^min y.toNat ik.bits))))):=_root_.id rfl
@[go_sem] theorem Avp{x:Operand}{t:TypeId}:aOp P (.call {callee:=.builtin .clear,args:=#[x],argTypes:=#[t]}) fr σ k=aClear (tk P t) σ (fr.ev x) k:=_root_.id rfl
@[go_sem] theorem Ash{i:TK}{a c:Nat}{q eby:Nat}{ez:List Value}{byt ag:Bool}{sz:Nat}{zr:List Value}:aClear (some ⟨ag,sz,zr,.sl q eby ez byt⟩) σ (.v (.slice none a c)) k=k (.tup []) σ:=_root_.id rfl
@[go_sem] theorem Atk{x y:Operand}{t t2:TypeId}:aOp P (.call {callee:=.builtin .delete,args:=#[x,y],argTypes:=#[t,t2]}) fr σ k=Kc P (tk P t) σ (fr.ev x) (fr.ev y) k:=_root_.id rfl
@[go_sem] theorem Axe{t:TypeId}{x y:Operand}{ok:Bool}:aOp P (.lookup t x y ok) fr σ k=M3 P (tk P t) σ (fr.ev x) (fr.ev y) ok (@hid _ ⟨fun v=>k v σ⟩):=_root_.id rfl
@[go_sem] theorem Atl{t:TypeId}{m x y:Operand}:aOp P (.mapUpdate t m x y) fr σ k=Kd P (tk P t) σ (fr.ev m) (fr.ev x) (fr.ev y) (@hid _ ⟨fun σ'=>k (.v undef) σ'⟩):=_root_.id rfl
@[go_sem] theorem Az0{t:TypeId}{x:Operand}:aOp P (.makeInterface t x) fr σ k=aMkI P t (fr.ev x) (@hid _ ⟨fun v=>k v σ⟩):=_root_.id rfl
@[go_sem] theorem Az3{t u:TypeId}{x:Operand}:aOp P (.typeAssert x t u false) fr σ k=aTyA P u (fr.ev x) (@hid _ ⟨fun v=>k v σ⟩):=_root_.id rfl
@[go_sem] theorem Azm{t:TypeId}{y:Value}:aMkI P t (.v y) K=(Lm P t=true∧K (.v (.iface t y))):=_root_.id rfl
@[go_sem] theorem Bbg{u t:TypeId}{y:Value}:aTyA P u (.v (.iface t y)) K=(Lm P u=true∧t=u∧K (.v y)):=_root_.id rfl
def At3(kd:TD)(z:AV)(ob:Option Cj)(x:Value)(ok:Bool)(K:AV→Prop):Prop:=
 match ob with
 |some (.map kv)=>Lp kd x=true∧(∀p∈kv,Lp kd p.1=true)∧match Rb x kv with
  |some u=>K (if ok then .tup [u,.v (.bool true)]else u)
  |none=>K (if ok then .tup [z,.v (.bool false)]else z)
 |_=>False
def aNew(σ:St)(t:Cj)(k:AV→St→Prop):Prop:=∀b,σ b=none→k (.v (.pointer (some ⟨b,0,none⟩))) (σ.set b t)
theorem Ay{t:Cj}(h:∀b,σ b=none→(∀x o,σ x=some o→x≠b)→k (.v (.pointer (some ⟨b,0,none⟩))) (σ.set b t)):aNew σ t k:=
 fun b hb=>h b hb fun x o hx e=>by subst e;rw[hb]at hx;cases hx
@[go_sem] theorem Axk{x y:AV}:Jm (.v (.bool true)) x y K=K x:=by simp[Jm]
@[go_sem] theorem Axj{x y:AV}:Jm (.v (.bool false)) x y K=K y:=by simp[Jm]
@[go_sem] theorem At4{i:TK}:K5 (some i) σ k=aNew σ (.cells (i.zr.map .v)) k:=_root_.id rfl
@[go_sem] theorem Ayb{x:AV}:aBox x σ k=(x.cells.all AV.one=true∧aNew σ (.cells x.cells) k):=_root_.id rfl
@[go_sem] theorem Asx{ag:Bool}{sz:Nat}{zr:List Value}{fs:List (Nat×Nat×Bool)}{ps:List (Nat×AV)}:H6 (some ⟨ag,sz,zr,.st fs⟩) ps K=Hh (@hid _ ⟨fun j=>(fs[j]?).map fun f=>(f.1,f.2.1)⟩) K (zr.map .v) ps:=_root_.id rfl
@[go_sem] theorem Ase{ag:Bool}{sz n esz:Nat}{eag:Bool}{zr:List Value}{ps:List (Nat×AV)}:H6 (some ⟨ag,sz,zr,.arr n esz eag⟩) ps K=Hh (@hid _ ⟨fun j=>some (j*esz,esz)⟩) K (zr.map .v) ps:=_root_.id rfl
@[go_sem] theorem Atb{fs:Nat→Option (Nat×Nat)}{cs:List AV}:Hh fs K cs []=K (.agg cs):=_root_.id rfl
def Abs(q:Option (Nat×Nat))(cs:List AV)(x:List AV)(k:List AV→Prop):Prop:=
 match q with
 |some (off,sz)=>x.length=sz∧off+sz≤cs.length∧k (A0 cs off x)
 |none=>False
@[go_sem] theorem Avt{off sz:Nat}{cs x:List AV}{k:List AV→Prop}:Abs (some (off,sz)) cs x k=(x.length=sz∧off+sz≤cs.length∧k (A0 cs off x)):=_root_.id rfl
@[go_sem] theorem Asj{fs:Nat→Option (Nat×Nat)}{cs:List AV}{j:Nat}{x:AV}{r:List (Nat×AV)}:Hh fs K cs ((j,x)::r)=Abs (fs j) cs x.cells (@hid _ ⟨fun cs'=>Hh fs K cs' r⟩):=by
 simp only[Hh,Abs,hid];cases fs j with
 |none=>rfl
 |some q=>rfl
@[go_sem] theorem Asw{ag:Bool}{sz esz eby:Nat}{zr ez:List Value}{byt:Bool}{n:Nat}{ps:List (Nat×AV)}:He (some ⟨ag,sz,zr,.sl esz eby ez byt⟩) n ps K=(0<esz∧n*esz≤16777216∧ez.all Value.oneCell'=true∧Hp esz (@hid _ ⟨fun es=>K (.fsl esz es)⟩) (List.replicate n (ez.map .v)) ps):=_root_.id rfl
@[go_sem] theorem Asi{q:Nat}{k:List (List AV)→Prop}{es:List (List AV)}:Hp q k es []=k es:=_root_.id rfl
@[go_sem] theorem Are{q:Nat}{k:List (List AV)→Prop}{es:List (List AV)}{j:Nat}{x:AV}{r:List (Nat×AV)}:Hp q k es ((j,x)::r)=(j<es.length∧x.cells.length=q∧x.cells.all AV.one=true∧Hp q k (es.set j x.cells) r):=_root_.id rfl
def K6(ag:Bool)(sz o:Nat)(cs:List AV)(K:AV→Prop):Prop:=if ag then o+sz≤cs.length∧K (.agg ((cs.drop o).take sz))else o<cs.length∧K (cs.getD o (.v undef))
def Abr(ag:Bool)(sz o:Nat)(t:Option Cj)(K:AV→Prop):Prop:=
 match t with
 |some (.cells cs)=>K6 ag sz o cs K
 |_=>False
def Wl(ag:Bool)(sz q j f:Nat)(t:Option Cj)(K:AV→Prop):Prop:=
 match t with
 |some (.rows q' es _ _)=>q'=q∧j<es.length∧(if ag then f+sz≤q∧K (.agg (((es.getD j []).drop f).take sz))else f<q∧K ((es.getD j []).getD f (.v undef)))
 |_=>False
@[go_sem] theorem Aw4{ag:Bool}{sz:Nat}{zr:List Value}{td:TD}{b o:Nat}:C8 (some ⟨ag,sz,zr,td⟩) σ (.v (.pointer (some ⟨b,o,none⟩))) K=Abr ag sz o (σ b) K:=by
 simp only[C8,Abr];cases σ b with
 |none=>rfl
 |some t=>cases t<;>rfl
@[go_sem] theorem Avj{ag:Bool}{sz:Nat}{zr:List Value}{td:TD}{cs:List AV}:C8 (some ⟨ag,sz,zr,td⟩) σ (.fp cs) K=K6 ag sz 0 cs K:=by
 simp[C8,K6]
@[go_sem] theorem Avk{ag:Bool}{sz:Nat}{zr:List Value}{td:TD}{b q j f:Nat}:C8 (some ⟨ag,sz,zr,td⟩) σ (.rp b q j f) K=Wl ag sz q j f (σ b) K:=by
 simp only[C8,Wl];cases σ b with
 |none=>rfl
 |some t=>cases t<;>rfl
@[go_sem] theorem Avh{ag:Bool}{sz o:Nat}{cs:List AV}:Abr ag sz o (some (.cells cs)) K=K6 ag sz o cs K:=_root_.id rfl
def P4(ag:Bool)(sz f q:Nat)(cs:List AV)(K:AV→Prop):Prop:=if ag then f+sz≤q∧K (.agg ((cs.drop f).take sz))else f<q∧K (cs.getD f (.v undef))
@[go_sem] theorem Avi{ag:Bool}{sz q j f:Nat}{es:List (List AV)}{frz:Bool}{cap:Nat}:Wl ag sz q j f (some (.rows q es frz cap)) K=(j<es.length∧P4 ag sz f q (es.getD j []) K):=by
 simp[Wl,P4]
@[go_sem] theorem Aub{sz o:Nat}{cs:List AV}:K6 true sz o cs K=(o+sz≤cs.length∧K (.agg ((cs.drop o).take sz))):=by simp[K6]
@[go_sem] theorem Auc{sz o:Nat}{cs:List AV}:K6 false sz o cs K=(o<cs.length∧K (cs.getD o (.v undef))):=by simp[K6]
@[go_sem] theorem As0{sz f q:Nat}{cs:List AV}:P4 true sz f q cs K=(f+sz≤q∧K (.agg ((cs.drop f).take sz))):=by simp[P4]
@[go_sem] theorem As1{sz f q:Nat}{cs:List AV}:P4 false sz f q cs K=(f<q∧K (cs.getD f (.v undef))):=by simp[P4]
def Wm(sz b o:Nat)(t:Option Cj)(σ:St)(x:List AV)(k:St→Prop):Prop:=
 match t with
 |some (.cells cs)=>o+sz≤cs.length∧k (σ.set b (.cells (A0 cs o x)))
 |_=>False
def Rp(sz b q j f:Nat)(t:Option Cj)(σ:St)(x:List AV)(k:St→Prop):Prop:=
 match t with
 |some (.rows q' es false cap)=>q'=q∧j<es.length∧f+sz≤q∧k (σ.set b (.rows q (es.set j (A0 (es.getD j []) f x)) false cap))
 |_=>False
@[go_sem] theorem Av2{ag:Bool}{sz:Nat}{zr:List Value}{td:TD}{b o:Nat}{x:AV}{k:St→Prop}:Gr (some ⟨ag,sz,zr,td⟩) σ (.v (.pointer (some ⟨b,o,none⟩))) x k=(x.cells.length=sz∧x.cells.all AV.one=true∧Wm sz b o (σ b) σ x.cells k):=by
 simp only[Gr,Wm];cases σ b with
 |none=>rfl
 |some t=>cases t<;>rfl
@[go_sem] theorem Atw{ag:Bool}{sz:Nat}{zr:List Value}{td:TD}{b q j f:Nat}{x:AV}{k:St→Prop}:Gr (some ⟨ag,sz,zr,td⟩) σ (.rp b q j f) x k=(x.cells.length=sz∧x.cells.all AV.one=true∧Rp sz b q j f (σ b) σ x.cells k):=by
 simp only[Gr,Rp];cases σ b with
 |none=>rfl
 |some t=>
  cases t with
  |rows _ _ frz _=>cases frz<;>rfl
  |_=>rfl
@[go_sem] theorem Atu{sz b o:Nat}{cs x:List AV}{k:St→Prop}:Wm sz b o (some (.cells cs)) σ x k=(o+sz≤cs.length∧k (σ.set b (.cells (A0 cs o x)))):=_root_.id rfl
@[go_sem] theorem Atv{sz b q j f:Nat}{es:List (List AV)}{cap:Nat}{x:List AV}{k:St→Prop}:Rp sz b q j f (some (.rows q es false cap)) σ x k=(j<es.length∧f+sz≤q∧k (σ.set b (.rows q (es.set j (A0 (es.getD j []) f x)) false cap))):=by
 simp[Rp]
@[go_sem] theorem Azo{ad:Addr}:P6 (.v (.pointer (some ad))) K=K (.v (.pointer (some ad))):=_root_.id rfl
@[go_sem] theorem Azn{f:FuncId}{x y:Array Value}:P6 (.v (.func (.func f) x y)) K=K (.v (.func (.func f) x y)):=_root_.id rfl
@[go_sem] theorem Azp{l:Nat}{x y:Array Value}:P6 (.v (.func (.yield l) x y)) K=K (.v (.func (.yield l) x y)):=_root_.id rfl
@[go_sem] theorem Aw6{cs:List AV}:P6 (.fp cs) K=K (.fp cs):=_root_.id rfl
@[go_sem] theorem Aw7{b q i f:Nat}:P6 (.rp b q i f) K=K (.rp b q i f):=_root_.id rfl
def aFad(q:Option (Nat×Nat×Bool))(x:AV)(K:AV→Prop):Prop:=
 match q with
 |some (off,sz,_)=>0<sz∧match x with
  | .v (.pointer (some ⟨b,p,none⟩))=>K (.v (.pointer (some ⟨b,p+off,none⟩)))
  | .fp cs=>off≤cs.length∧K (.fp (cs.drop off))
  | .rp b q j g=>K (.rp b q j (g+off))
  |_=>False
 |none=>False
@[go_sem] theorem Aws{ag:Bool}{sz f:Nat}{zr:List Value}{fs:List (Nat×Nat×Bool)}{x:AV}:Iz (some ⟨ag,sz,zr,.st fs⟩) f x K=aFad (fs[f]?) x K:=by
 simp only[Iz,aFad];cases fs[f]? with
 |none=>rfl
 |some q=>rfl
@[go_sem] theorem Ay5{off sz:Nat}{ag:Bool}{b p:Nat}:aFad (some (off,sz,ag)) (.v (.pointer (some ⟨b,p,none⟩))) K=(0<sz∧K (.v (.pointer (some ⟨b,p+off,none⟩)))):=_root_.id rfl
@[go_sem] theorem Awq{off sz:Nat}{ag:Bool}{cs:List AV}:aFad (some (off,sz,ag)) (.fp cs) K=(0<sz∧off≤cs.length∧K (.fp (cs.drop off))):=_root_.id rfl
@[go_sem] theorem Awr{off sz:Nat}{ag:Bool}{b q j g:Nat}:aFad (some (off,sz,ag)) (.rp b q j g) K=(0<sz∧K (.rp b q j (g+off))):=_root_.id rfl
def aFl(q:Option (Nat×Nat×Bool))(x:AV)(K:AV→Prop):Prop:=
 match q with
 |some (off,sz,ag)=>match x with
  | .agg cs=>K6 ag sz off cs K
  |_=>False
 |none=>False
@[go_sem] theorem Ay7{ag:Bool}{sz f:Nat}{zr:List Value}{fs:List (Nat×Nat×Bool)}{x:AV}:Nx (some ⟨ag,sz,zr,.st fs⟩) f x K=aFl (fs[f]?) x K:=by
 simp only[Nx,aFl];cases fs[f]? with
 |none=>rfl
 |some q=>cases x<;>rfl
@[go_sem] theorem fl_a{off sz:Nat}{ag:Bool}{cs:List AV}:aFl (some (off,sz,ag)) (.agg cs) K=K6 ag sz off cs K:=_root_.id rfl
section
variable{ag eag:Bool}{sz n esz eby:Nat}{zr ez:List Value}{byt:Bool}{ik:IntKind}{j:Int}
@[go_sem] theorem Aw0{b p:Nat}:Fq (some ⟨ag,sz,zr,.arr n esz eag⟩) σ (.v (.pointer (some ⟨b,p,none⟩))) (.v (.int ik j)) K=(0≤j∧j<n∧K (.v (.pointer (some ⟨b,p+j.toNat*esz,none⟩)))):=_root_.id rfl
@[go_sem] theorem Aut{cs:List AV}:Fq (some ⟨ag,sz,zr,.arr n esz eag⟩) σ (.fp cs) (.v (.int ik j)) K=(0≤j∧j<n∧j.toNat*esz≤cs.length∧K (.fp (cs.drop (j.toNat*esz)))):=_root_.id rfl
@[go_sem] theorem Auu{b q r f:Nat}:Fq (some ⟨ag,sz,zr,.arr n esz eag⟩) σ (.rp b q r f) (.v (.int ik j)) K=(0≤j∧j<n∧K (.rp b q r (f+j.toNat*esz))):=_root_.id rfl
@[go_sem] theorem Auv{q:Nat}{es:List (List AV)}:Fq (some ⟨ag,sz,zr,.sl esz eby ez byt⟩) σ (.sl q es) (.v (.int ik j)) K=(q=esz∧0≤j∧j<es.length∧K (.fp (es.getD j.toNat []))):=_root_.id rfl
@[go_sem] theorem Atg{q:Nat}{es:List (List AV)}:Fq (some ⟨ag,sz,zr,.sl esz eby ez byt⟩) σ (.fsl q es) (.v (.int ik j)) K=(q=esz∧0≤j∧j<es.length∧K (.fp (es.getD j.toNat []))):=_root_.id rfl
@[go_sem] theorem Aw1{b m c:Nat}:Fq (some ⟨ag,sz,zr,.sl esz eby ez byt⟩) σ (.v (.slice (some ⟨b,0,none⟩) m c)) (.v (.int ik j)) K=(0≤j∧j<m∧K (.rp b esz j.toNat 0)):=by simp[Fq]
@[go_sem] theorem Auw{cs:List AV}:Sa (some ⟨ag,sz,zr,.arr n esz eag⟩) (.agg cs) (.v (.int ik j)) K=(0≤j∧j<n∧K6 eag esz (j.toNat*esz) cs K):=_root_.id rfl
@[go_sem] theorem Aux{s:ByteArray}:Sa (some ⟨ag,sz,zr,.str⟩) (.v (.string s)) (.v (.int ik j)) K=(0≤j∧j<s.size∧K (.v (.int .u8 (s.data.toList.getD j.toNat 0).toNat))):=_root_.id rfl
@[go_sem] theorem Ay0{vs:List AV}{i:Nat}:Ho (.tup vs) i K=(i<vs.length∧K (vs.getD i (.v undef))):=_root_.id rfl
@[go_sem] theorem Avf{s:ByteArray}:K7 (some ⟨ag,sz,zr,.str⟩) (.v (.string s)) K=K (.v (.int .i64 s.size)):=_root_.id rfl
@[go_sem] theorem Aw2{q:Nat}{es:List (List AV)}:K7 (some ⟨ag,sz,zr,.sl esz eby ez byt⟩) (.sl q es) K=K (.v (.int .i64 es.length)):=_root_.id rfl
@[go_sem] theorem Ave{q:Nat}{es:List (List AV)}:K7 (some ⟨ag,sz,zr,.sl esz eby ez byt⟩) (.fsl q es) K=K (.v (.int .i64 es.length)):=_root_.id rfl
@[go_sem] theorem Azj{a:Option Addr}{m c:Nat}:K7 (some ⟨ag,sz,zr,.sl esz eby ez byt⟩) (.v (.slice a m c)) K=K (.v (.int .i64 m)):=_root_.id rfl
@[go_sem] theorem Avd{x:AV}:K7 (some ⟨ag,sz,zr,.arr n esz eag⟩) x K=K (.v (.int .i64 n)):=_root_.id rfl
@[go_sem] theorem As5{i':IntKind}{ag':Bool}{sz':Nat}{zr':List Value}{i'':IntKind}:Ji (some ⟨ag,sz,zr,.int i'⟩) (some ⟨ag',sz',zr',.int i''⟩) σ (.v (.int ik j)) k=k (.v (.int i'' (i''.wrap j))) σ:=_root_.id rfl
@[go_sem] theorem As6{ag':Bool}{sz':Nat}{zr':List Value}{s:ByteArray}:Ji (some ⟨ag,sz,zr,.str⟩) (some ⟨ag',sz',zr',.str⟩) σ (.v (.string s)) k=k (.v (.string s)) σ:=_root_.id rfl
@[go_sem] theorem Auf{ag':Bool}{sz':Nat}{zr':List Value}{x:AV}:Ji (some ⟨ag,sz,zr,.sl 1 eby ez true⟩) (some ⟨ag',sz',zr',.str⟩) σ x k=∃es,Pw 1 σ x=some es∧es.all Nn=true∧k (.v (.string (Ue es))) σ:=by
 cases x<;>rfl
end
def band(k:IntKind)(x y:Int):Int:=k.wrap ((BitVec.ofInt k.bits x&&&BitVec.ofInt k.bits y).toNat:Int)
def bxor(k:IntKind)(x y:Int):Int:=k.wrap ((BitVec.ofInt k.bits x^^^BitVec.ofInt k.bits y).toNat:Int)
@[go_sem] theorem At6{op:BinOp}{t:TypeId}{ik:IntKind}{x y:Int}:D5 P op t (.v (.int ik x)) (.v (.int ik y)) K=Fz op ik x y K:=by simp[D5]
@[go_sem] theorem At7{t:TypeId}{ik ik':IntKind}{x y:Int}:D5 P .shl t (.v (.int ik x)) (.v (.int ik' y)) K=Fz .shl ik x y K:=by simp[D5,isSh]
@[go_sem] theorem At8{t:TypeId}{ik ik':IntKind}{x y:Int}:D5 P .shr t (.v (.int ik x)) (.v (.int ik' y)) K=Fz .shr ik x y K:=by simp[D5,isSh]
@[go_sem] theorem Awe{t:TypeId}{f:Fn}{a b:Array Value}:D5 P .eql t (.v (.func f a b)) (.v .nilFunc) K=(isFn P t=true∧K (.v (.bool false))):=_root_.id rfl
@[go_sem] theorem Awf{t:TypeId}{f:Fn}{a b:Array Value}:D5 P .neq t (.v (.func f a b)) (.v .nilFunc) K=(isFn P t=true∧K (.v (.bool true))):=_root_.id rfl
@[go_sem] theorem Awa{t:TypeId}{xs ys:List AV}:D5 P .eql t (.agg xs) (.agg ys) K=Ri P false t (.agg xs) (.agg ys) K:=_root_.id rfl
@[go_sem] theorem Awb{t:TypeId}{xs ys:List AV}:D5 P .neq t (.agg xs) (.agg ys) K=Ri P true t (.agg xs) (.agg ys) K:=_root_.id rfl
@[go_sem] theorem Av5{x y:ByteArray}:K9 .gtr x y K=K (.v (.bool (!(Op.bytesLess x.toList y.toList||decide (x=y))))):=_root_.id rfl
theorem Wn{neg:Bool}{t:TypeId}{x y:AV}{xs ys:List AV}{vs ws:List Value}{ls:List Dp}(e5:Gc P 9 t=some ls)(h1:N1 P t=true)(h2:P.eqGuardType P.depth t=false)(e1:aggV x=some xs)(e2:aggV y=some ys)(e3:Ro xs=some vs)(e4:Ro ys=some ws)(e6:Fit ls vs=true)(e7:Fit ls ws=true)
  (hk:K (.v (.bool (if neg then !eqL vs ws else eqL vs ws)))):Ri P neg t x y K:=⟨h1,h2,xs,ys,vs,ws,ls,e1,e2,e3,e4,e5,e6,e7,hk⟩
@[go_sem] theorem At9{op:BinOp}{t:TypeId}{x y:ByteArray}:D5 P op t (.v (.string x)) (.v (.string y)) K=K9 op x y K:=_root_.id rfl
@[go_sem] theorem Awc{t:TypeId}{x y:Bool}:D5 P .eql t (.v (.bool x)) (.v (.bool y)) K=(Qr P t=true∧K (.v (.bool (decide (x=y))))):=_root_.id rfl
@[go_sem] theorem Awd{t:TypeId}{x y:Bool}:D5 P .neq t (.v (.bool x)) (.v (.bool y)) K=(Qr P t=true∧K (.v (.bool (decide (x≠y))))):=_root_.id rfl
@[go_sem] theorem Awk{t:TypeId}{p:Option Addr}:D5 P .eql t (.v (.pointer p)) (.v (.pointer none)) K=(Em P t=true∧K (.v (.bool p.isNone))):=by cases p<;>rfl
@[go_sem] theorem Awl{t:TypeId}{p:Option Addr}:D5 P .neq t (.v (.pointer p)) (.v (.pointer none)) K=(Em P t=true∧K (.v (.bool p.isSome))):=by cases p<;>rfl
@[go_sem] theorem Awm{t:TypeId}{p:Option Addr}{m c:Nat}:D5 P .eql t (.v (.slice p m c)) (.v (.slice none 0 0)) K=(Fj P t=true∧K (.v (.bool p.isNone))):=_root_.id rfl
@[go_sem] theorem Awn{t:TypeId}{p:Option Addr}{m c:Nat}:D5 P .neq t (.v (.slice p m c)) (.v (.slice none 0 0)) K=(Fj P t=true∧K (.v (.bool p.isSome))):=_root_.id rfl
@[go_sem] theorem Awg{t:TypeId}{q:Nat}{es:List (List AV)}:D5 P .eql t (.sl q es) (.v (.slice none 0 0)) K=(Fj P t=true∧(es≠[]→K (.v (.bool false)))∧(es=[]→∀b,K (.v (.bool b)))):=_root_.id rfl
@[go_sem] theorem Awh{t:TypeId}{q:Nat}{es:List (List AV)}:D5 P .neq t (.sl q es) (.v (.slice none 0 0)) K=(Fj P t=true∧(es≠[]→K (.v (.bool true)))∧(es=[]→∀b,K (.v (.bool b)))):=_root_.id rfl
@[go_sem] theorem Awi{t:TypeId}{p:Option Nat}:D5 P .eql t (.v (.map p)) (.v (.map none)) K=(Tn P t=true∧K (.v (.bool p.isNone))):=_root_.id rfl
@[go_sem] theorem Awj{t:TypeId}{p:Option Nat}:D5 P .neq t (.v (.map p)) (.v (.map none)) K=(Tn P t=true∧K (.v (.bool p.isSome))):=_root_.id rfl
@[go_sem] theorem Auy{ik:IntKind}{x y:Int}:Fz .add ik x y K=K (.v (.int ik (ik.wrap (x+y)))):=_root_.id rfl
@[go_sem] theorem Avb{ik:IntKind}{x y:Int}:Fz .sub ik x y K=K (.v (.int ik (ik.wrap (x-y)))):=_root_.id rfl
@[go_sem] theorem Au5{ik:IntKind}{x y:Int}:Fz .mul ik x y K=K (.v (.int ik (ik.wrap (x*y)))):=_root_.id rfl
@[go_sem] theorem Au7{ik:IntKind}{x y:Int}:Fz .quo ik x y K=(y≠0∧K (.v (.int ik (ik.wrap (x.tdiv y))))):=_root_.id rfl
@[go_sem] theorem Au8{ik:IntKind}{x y:Int}:Fz .rem ik x y K=(y≠0∧K (.v (.int ik (x.tmod y)))):=_root_.id rfl
@[go_sem] theorem Au0{ik:IntKind}{x y:Int}:Fz .eql ik x y K=K (.v (.bool (decide (x=y)))):=_root_.id rfl
@[go_sem] theorem Au6{ik:IntKind}{x y:Int}:Fz .neq ik x y K=K (.v (.bool (!decide (x=y)))):=by simp[Fz]
@[go_sem] theorem Au4{ik:IntKind}{x y:Int}:Fz .lss ik x y K=K (.v (.bool (decide (x<y)))):=_root_.id rfl
@[go_sem] theorem Au3{ik:IntKind}{x y:Int}:Fz .leq ik x y K=K (.v (.bool (decide (x≤y)))):=_root_.id rfl
@[go_sem] theorem Au2{ik:IntKind}{x y:Int}:Fz .gtr ik x y K=K (.v (.bool (decide (y<x)))):=_root_.id rfl
@[go_sem] theorem Au1{ik:IntKind}{x y:Int}:Fz .geq ik x y K=K (.v (.bool (decide (y≤x)))):=_root_.id rfl
@[go_sem] theorem Auz{ik:IntKind}{x y:Int}:Fz .and ik x y K=K (.v (.int ik (band ik x y))):=_root_.id rfl
@[go_sem] theorem Avc{ik:IntKind}{x y:Int}:Fz .xor ik x y K=K (.v (.int ik (bxor ik x y))):=_root_.id rfl
@[go_sem] theorem Ax9{ik:IntKind}{x:Int}:aUn .xor (.v (.int ik x)) K=K (.v (.int ik (bxor ik (if ik.signed then-1 else ik.max) x))):=_root_.id rfl
@[go_sem] theorem Av4{x y:ByteArray}:K9 .eql x y K=K (.v (.bool (decide (x=y)))):=_root_.id rfl
@[go_sem] theorem Av7{x y:ByteArray}:K9 .neq x y K=K (.v (.bool (!decide (x=y)))):=by simp[K9]
@[go_sem] theorem Av6{x y:ByteArray}:K9 .lss x y K=K (.v (.bool (Op.bytesLess x.toList y.toList))):=_root_.id rfl
@[go_sem] theorem Av3{x y:ByteArray}:K9 .add x y K=(x.size+y.size≤9223372036854775807∧K (.v (.string (x++y)))):=_root_.id rfl
@[go_sem] theorem Ax8{b:Bool}:aUn .not (.v (.bool b)) K=K (.v (.bool (!b))):=_root_.id rfl
@[go_sem] theorem Ax7{ik:IntKind}{x:Int}:aUn .neg (.v (.int ik x)) K=K (.v (.int ik (ik.wrap (0-x)))):=_root_.id rfl
end
@[go_sem] theorem Aui{ev:Operand→AV}:evs ev []=[]:=_root_.id rfl
@[go_sem] theorem As8{ev:Operand→AV}{j:Nat}{x:Operand}{l:List (Nat×Operand)}:evs ev ((j,x)::l)=(j,ev x)::evs ev l:=_root_.id rfl
@[go_sem] theorem Aud{x:Value}(h:x.oneCell'=true):AV.cells (.v x)=[.v x]:=by cases x<;>first|rfl|cases h
@[go_sem] theorem Asf{cs:List AV}:AV.cells (.agg cs)=cs:=_root_.id rfl
@[go_sem] theorem As2{q:Nat}{es:List (List AV)}:AV.cells (.sl q es)=[.sl q es]:=_root_.id rfl
@[go_sem] theorem Asg{q:Nat}{es:List (List AV)}:AV.cells (.fsl q es)=[.fsl q es]:=_root_.id rfl
@[go_sem] theorem Az4{x:Value}:AV.one (.v x)=x.oneCell':=_root_.id rfl
@[go_sem] theorem Axi{q:Nat}{es:List (List AV)}:AV.one (.sl q es)=true:=_root_.id rfl
@[go_sem] theorem Avr{q:Nat}{es:List (List AV)}:AV.one (.fsl q es)=true:=_root_.id rfl
@[go_sem] theorem oc1{k:IntKind}{x:Int}:(Value.int k x).oneCell'=true:=_root_.id rfl
@[go_sem] theorem oc2{x:Bool}:(Value.bool x).oneCell'=true:=_root_.id rfl
@[go_sem] theorem oc3{x:ByteArray}:(Value.string x).oneCell'=true:=_root_.id rfl
@[go_sem] theorem oc4{x:Option Addr}:(Value.pointer x).oneCell'=true:=_root_.id rfl
@[go_sem] theorem oc5{x:Option Addr}{l c:Nat}:(Value.slice x l c).oneCell'=true:=_root_.id rfl
@[go_sem] theorem oc6{x:Option Nat}:(Value.map x).oneCell'=true:=_root_.id rfl
@[go_sem] theorem oc7{f:Fn}{x y:Array Value}:(Value.func f x y).oneCell'=true:=_root_.id rfl
@[go_sem] theorem oc8:Value.nilFunc.oneCell'=true:=_root_.id rfl
@[go_sem] theorem oc9:Value.nilIface.oneCell'=true:=_root_.id rfl
@[go_sem] theorem Asl{ag:Bool}{sz esz eby:Nat}{zr ez:List Value}{byt:Bool}:Np (some ⟨ag,sz,zr,.sl esz eby ez byt⟩)=true:=_root_.id rfl
@[go_sem] theorem Arr{ag:Bool}{sz:Nat}{zr:List Value}{q:IntKind}:Np (some ⟨ag,sz,zr,.int q⟩)=false:=_root_.id rfl
@[go_sem] theorem Ars{ag:Bool}{sz:Nat}{zr:List Value}:Np (some ⟨ag,sz,zr,.str⟩)=true:=_root_.id rfl
@[go_sem] theorem Av0{fr:Fr}{σ:St}{t:Nat}:A8 P fr σ [.tmp t]=some (fr t):=_root_.id rfl
@[go_sem] theorem Av1{fr:Fr}{σ:St}{t u:Nat}:A8 P fr σ [.tmp t,.tmp u]=some (.tup [fr t,fr u]):=_root_.id rfl
@[go_sem] theorem Ass{fr:Fr}{σ:St}{t u v:Nat}:A8 P fr σ [.tmp t,.tmp u,.tmp v]=some (.tup [fr t,fr u,fr v]):=_root_.id rfl
@[go_sem] theorem Ats{fr:Fr}{σ:St}:A8 P fr σ []=some (.tup []):=_root_.id rfl
theorem Ad{Q:AV→St→Prop}{l:List ResultVar}{fr:Fr}{σ:St}{r:AV}(h:A8 P fr σ l=some r)(hq:Q r σ):Dr P Q l fr σ:=⟨r,h,r,σ,Gq.refl σ r,hq⟩
theorem Ae{Q:AV→St→Prop}{l:List ResultVar}{fr:Fr}{σ:St}{r:AV}(h:A8 P fr σ l=some r)(r':AV)(σ':St)(hv:Gq σ r σ' r')(hq:Q r' σ'):Dr P Q l fr σ:=⟨r,h,r',σ',hv,hq⟩
@[go_sem] theorem Ab{σ:St}{b:Nat}{o:Cj}:(σ.set b o) b=some o:=by simp[St.set]
@[go_sem] theorem Af{σ:St}{b x:Nat}{o:Cj}(h:x≠b):(σ.set b o) x=σ x:=by simp[St.set,h]
@[go_sem] theorem Cc{σ:St}{b:Nat}{o o':Cj}:(σ.set b o).set b o'=σ.set b o':=by
 funext x;simp only[St.set];split<;>rfl
theorem Bw{σ:St}{b:Nat}{o:Cj}(h:σ b=some o):σ.set b o=σ:=by
 funext x;simp only[St.set];split
 ·rename_i hx;rw[hx,h]
 ·rfl
@[go_sem] theorem Aqf{c:AV}{cs xs:List AV}{o:Nat}:A0 (c::cs) (o+1) xs=c::A0 cs o xs:=by
 simp[A0,Nat.add_right_comm]
@[go_sem] theorem Aqg{cs xs:List AV}:A0 cs 0 xs=xs++cs.drop xs.length:=by simp[A0]
end
attribute [go_sem] List.map_cons List.map_nil List.getD_cons_zero List.getD_cons_succ List.getElem?_cons_zero List.getElem?_cons_succ Option.map_some Option.map_none Option.isNone_some Option.isNone_none Option.isSome_some Option.isSome_none true_and and_true List.length_cons List.length_nil List.all_cons List.all_nil Bool.and_true Bool.true_and Bool.not_true Bool.not_false List.drop_zero List.drop_succ_cons List.drop_nil List.take_zero List.take_succ_cons List.take_nil List.cons_append List.nil_append List.append_nil decide_true decide_false List.replicate_succ List.replicate_zero List.set_cons_zero List.set_cons_succ
section
variable{P:Program}{ops:Array Oper}{K:Fr→St→Prop}
def Ed(ops:Array Oper):Nat→Nat→Nat→Bool
 |0,_,_=>false
 |n+1,j,p=>match ops[j]? with
  |none=>false
  |some o=>o.after.any fun e=>Region.binds .any e&&(e.on==p||Ed ops n e.on p)
abbrev Mx:=Nat→(St→Prop)→Prop
def Mx.add(S:Mx)(i:Nat)(q:St→Prop):Mx:=fun p r=>S p r∨(p=i∧r=q)
theorem Ag9{S:Mx}{i j:Nat}{q r:St→Prop}:(S.add i q).add j r=(S.add j r).add i q:=by
 funext p s;simp only[Mx.add,eq_iff_iff];constructor
 ·rintro((h|h)|h)
  ·exact .inl (.inl h)
  ·exact .inr h
  ·exact .inl (.inr h)
 ·rintro((h|h)|h)
  ·exact .inl (.inl h)
  ·exact .inr h
  ·exact .inl (.inr h)
def Se(P:Program)(ops:Array Oper)(i:Nat)(S:Mx)(C:Mx→Fr→St→Prop)(fr:Fr)(σ:St):Prop:=
 match ops[i]? with
 |none=>C S fr σ
 |some o=>aGd (Ib ops) fr o.guard
   (aOp P o.op fr σ fun v σ'=>if cls P o.op=2 then(∀p q,S p q→Ed ops ops.size i p=false→q σ')∧C S (fr.put o.dst v) σ' else C (S.add i fun σ''=>Yl P o.op fr σ'' v) (fr.put o.dst v) σ')
   (C S (fr.put o.dst (.v undef)) σ)
def Rj(P:Program)(ops:Array Oper)(K:Fr→St→Prop):Nat→Array Bool→Mx→Fr→St→Prop
 |0,L,S,fr,σ=>Region.ready .any ops L=[]∧K fr σ
 |n+1,L,S,fr,σ=>(Region.ready .any ops L=[]→K fr σ)∧∀i∈Region.ready .any ops L,Se P ops i S (fun S' fr' σ'=>Rj P ops K n (L.setIfInBounds i true) S' fr' σ') fr σ
theorem Sb{b:Bool}{A B A' B':Prop}(h1:A→A')(h2:B→B')(h:aIf b A B):aIf b A' B':=by
 unfold aIf at h⊢;cases b
 ·exact h2 h
 ·exact h1 h
theorem H7{ds:List (Option Nat)}{fr:Fr}{g:Option (Nat×Bool)}{A B A' B':Prop}(h1:A→A')(h2:B→B')(h:aGd ds fr g A B):aGd ds fr g A' B':=by
 unfold aGd at h⊢;cases g with
 |none=>exact h1 h
 |some q=>
  obtain⟨j,want⟩:=q;simp only at h⊢;revert h;generalize ds.getD j none=z;cases z with
  |none=>exact fun h=>h
  |some d=>
   simp only;generalize fr d=x;cases x with
   |v y=>cases y with
    |bool b=>
     intro h;cases want
     ·have h:aIf b B A:=h
      show aIf b B' A';exact Sb h2 h1 h
     ·have h:aIf b A B:=h
      show aIf b A' B';exact Sb h1 h2 h
    |_=>exact h2
   |_=>exact fun h=>h
theorem Uz{i:Nat}{r:List Nat}{fr:Fr}{σ:St}:Jl P ops (i::r) K fr σ=(match ops[i]? with
  |none=>Jl P ops r K fr σ
  |some o=>aGd (Ib ops) fr o.guard (aOp P o.op fr σ fun v σ'=>Jl P ops r K (fr.put o.dst v) σ') (Jl P ops r K (fr.put o.dst (.v undef)) σ)):=rfl
theorem Acy{i:Nat}{r:List Nat}{S:Mx}{C:Mx→Fr→St→Prop}{fr:Fr}{σ:St}(hC:∀S fr σ,C S fr σ→Jl P ops r K fr σ)(h:Se P ops i S C fr σ):Jl P ops (i::r) K fr σ:=by
 rw[Uz];unfold Se at h;split at h
 ·exact hC _ _ _ h
 ·refine H7 (fun h=>Ke _ _ (fun v σ' hv=>?_) h) (hC _ _ _) h
  split at hv
  ·exact hC _ _ _ hv.2
  ·exact hC _ _ _ hv
theorem Abq:∀(n t:Nat) (L:Array Bool) (S:Mx) (fr:Fr) (σ:St),Rj P ops K n L S fr σ→Jl P ops (Region.linearise.go .any ops n t L []) K fr σ:=by
 intro n
 induction n with
 |zero=>intro t L S fr σ h;simpa[Region.linearise.go,Jl]using h.2
 |succ n ih=>
  intro t L S fr σ h;obtain⟨h0,h1⟩:=h;simp only[Region.linearise.go]
  change Jl P ops (match(Region.ready .any ops L)[t %(Region.ready .any ops L).length]? with
   |some i=>Region.linearise.go .any ops n (t/(Region.ready .any ops L).length) (L.setIfInBounds i true) [i]
   |none=>[].reverse) K fr σ
  cases hi:(Region.ready .any ops L)[t %(Region.ready .any ops L).length]? with
  |none=>
   have hnil:Region.ready .any ops L=[]:=by
    cases hr:Region.ready .any ops L with
    |nil=>rfl
    |cons x xs=>
     rw[hr]at hi;have hlt:t %(x::xs).length<(x::xs).length:=Nat.mod_lt _ (by simp);simp at hi;simp at hlt;omega
   simpa[Jl]using h0 hnil
  |some i=>
   simp only[];rw[linearise_go_acc,List.reverse_singleton,List.singleton_append];exact Acy (fun S' fr' σ' h=>ih _ _ S' fr' σ' h) (h1 i (List.mem_of_getElem? hi))
theorem Nw(hm:P.follows .mixedOrders=true){fr:Fr}{σ:St}(h:Rj P ops K ops.size (Array.replicate ops.size false) (fun _ _=>False) fr σ):Ux P ops K fr σ:=by
 intro t;simp only[Region.schedule,hm,Bool.true_or,if_true];exact Abq ops.size t _ _ fr σ h
def M7(ops:Array Oper)(L:Array Bool):Prop:=∀i o,L.getD i false=true→ops[i]? =some o→∀e∈o.after,Region.binds .any e=true→L.getD e.on false=true
theorem M4{L:Array Bool}(hL:M7 ops L):∀(n j p:Nat),(∀o,ops[j]? =some o→∀e∈o.after,Region.binds .any e=true→L.getD e.on false=true)→Ed ops n j p=true→L.getD p false=true
 |0,j,p,_,h=>by simp[Ed]at h
 |n+1,j,p,hj,h=>by
  simp only[Ed]at h;cases ho:ops[j]? with
  |none=>rw[ho]at h;cases h
  |some o=>
   rw[ho]at h;simp only[Array.any_eq_true,Bool.and_eq_true,Bool.or_eq_true,beq_iff_eq]at h;obtain⟨k,hk,h1,h2⟩:=h;have hl:=hj o ho _ (Array.getElem_mem hk) h1;rcases h2 with h2|h2
   ·rw[←h2];exact hl
   ·exact M4 hL n _ p (fun o' ho' e he hb=>hL _ o' hl ho' e he hb) h2
theorem Ns{L:Array Bool}{i:Nat}(h:i∈Region.ready .any ops L):L.getD i true=false∧∃o,ops[i]? =some o∧∀e∈o.after,Region.binds .any e=true→L.getD e.on false=true:=by
 obtain⟨h1,o,h2,h3⟩:=mem_ready.1 h;exact⟨h1,o,h2,h3⟩
theorem D7{L:Array Bool}(hL:M7 ops L){i:Nat}(hi:i∈Region.ready .any ops L):M7 ops (L.setIfInBounds i true):=by
 intro j o hj ho e he hb;have grow:∀k,L.getD k false=true→(L.setIfInBounds i true).getD k false=true:=by
  intro k hk;by_cases h:i=k
  ·subst h
   rcases Nat.lt_or_ge i L.size with h'|h'
   ·simp[h']
   ·simp[Array.getElem?_eq_none h']at hk
  ·rw[getD_set_ne false h];exact hk
 by_cases h:i=j
 ·subst h
  obtain⟨_,o',ho',hall⟩:=Ns hi;have:o'=o:=by rw[ho]at ho';exact(Option.some.inj ho').symm
  subst this;exact grow _ (hall e he hb)
 ·rw[getD_set_ne false h]at hj
  exact grow _ (hL j o hj ho e he hb)
theorem Acd{x y:Oper}{fr:Fr}{v:AV}{A B:Prop}(h:∀d,x.dst=some d→d∉y.looksAt ops):aGd (Ib ops) (fr.put x.dst v) y.guard A B=aGd (Ib ops) fr y.guard A B:=by
 unfold aGd;cases hg:y.guard with
 |none=>rfl
 |some q=>
  obtain⟨j,want⟩:=q;simp only;have hds:(Ib ops).getD j none=(ops[j]?).bind (·.dst):=by
   simp only[Ib,List.getD_eq_getElem?_getD,List.getElem?_map,Array.getElem?_toList];cases ops[j]? <;>rfl
  cases hd:(ops[j]?).bind (·.dst)with
  |none=>rw[hds,hd]
  |some d=>
   rw[hds,hd];simp only;have:(fr.put x.dst v) d=fr d:=by
    have:=Aja (fr:=fr) (d:=x.dst) (v:=v) (x:=.tmp d) (fun t ht e=>by
     injection e with e;subst e;exact h d ht (by simp[Oper.looksAt,hg,hd]))
    exact this
   rw[this]
theorem Acw{x y:Oper}{fr:Fr}{v:AV}{σ:St}{k:AV→St→Prop}(h:∀d,x.dst=some d→d∉y.looksAt ops):aOp P y.op (fr.put x.dst v) σ k=aOp P y.op fr σ k:=by
 refine Af8 fun z hz=>Aja fun t ht e=>?_;subst e;refine h t ht ?_;simp only[Oper.looksAt,List.mem_append,List.mem_filterMap];exact .inl ⟨.tmp t,by simpa using hz,rfl⟩
theorem Ads{x y:Oper}{fr:Fr}{v u:AV}(h:∀d,x.dst=some d→d∉y.looksAt ops):(fun σ=>Yl P y.op (fr.put x.dst v) σ u)=fun σ=>Yl P y.op fr σ u:=by
 funext σ;unfold Yl;refine propext (forall_congr' fun k=>imp_congr_right fun _=>?_);rw[Acw h]
theorem Ni{i:Nat}{oi:Oper}{v:AV}(hi:ops[i]? =some oi)(hcls:cls P oi.op≠2):∀(n:Nat) (L:Array Bool) (S:Mx) (fr:Fr) (σ:St),
  M7 ops L→
  (∀j oj,ops[j]? =some oj→j≠i→L.getD j true=false→(∀e∈oj.after,Region.binds .any e=true→e.on≠i)→oi.apart ops oj=true)→
  i∈Region.ready .any ops L→
  ((∀A B:Prop,A→aGd (Ib ops) fr oi.guard A B)∧Yl P oi.op fr σ v∧Rj P ops K n (L.setIfInBounds i true) (S.add i fun σ'=>Yl P oi.op fr σ' v) (fr.put oi.dst v) σ∨
    (∀A B:Prop,B→aGd (Ib ops) fr oi.guard A B)∧v= .v undef∧Rj P ops K n (L.setIfInBounds i true) S (fr.put oi.dst v) σ)→
  Rj P ops K (n+1) L S fr σ:=by
 intro n
 have here:∀(n:Nat) (L:Array Bool) (S:Mx) (fr:Fr) (σ:St),
  ((∀A B:Prop,A→aGd (Ib ops) fr oi.guard A B)∧Yl P oi.op fr σ v∧Rj P ops K n (L.setIfInBounds i true) (S.add i fun σ'=>Yl P oi.op fr σ' v) (fr.put oi.dst v) σ∨
    (∀A B:Prop,B→aGd (Ib ops) fr oi.guard A B)∧v= .v undef∧Rj P ops K n (L.setIfInBounds i true) S (fr.put oi.dst v) σ)→
  Se P ops i S (fun S' fr' σ'=>Rj P ops K n (L.setIfInBounds i true) S' fr' σ') fr σ:=by
  intro n L S fr σ H;unfold Se;simp only[hi];rcases H with⟨hg,hy,H⟩|⟨hg,rfl,H⟩
  ·refine hg _ _ (hy _ ?_)
   rw[if_neg hcls];exact H
  ·exact hg _ _ H
 induction n with
 |zero=>
  intro L S fr σ hL hfree hr H;refine⟨fun h=>(by rw[h]at hr;cases hr),fun j hj=>?_⟩;by_cases hji:j=i
  ·subst hji;exact here 0 L S fr σ H
  ·have h1:=ready_mono hj hji
   have h0:Region.ready .any ops (L.setIfInBounds i true)=[]:=by
    rcases H with⟨_,_,H⟩|⟨_,_,H⟩<;>exact H.1
   rw[h0]at h1;cases h1
 |succ n ih=>
  intro L S fr σ hL hfree hr H;refine⟨fun h=>(by rw[h]at hr;cases hr),fun j hj=>?_⟩;by_cases hji:j=i
  ·subst hji;exact here (n+1) L S fr σ H
  ·obtain⟨hjun,oj,hoj,hall⟩:=Ns hj
   have hiun:=(Ns hr).1;have hnoti:L.getD i false=false:=by
    rcases Nat.lt_or_ge i L.size with h'|h'
    ·simpa[h']using hiun
    ·simp[Array.getElem?_eq_none h']
   have hnot:∀e∈oj.after,Region.binds .any e=true→e.on≠i:=fun e he hb heq=>by
    have:=hall e he hb;rw[heq,hnoti]at this;cases this
   have hap:=hfree j oj hoj hji hjun hnot;obtain⟨a1,a2,a3⟩:=Oper.apart_spec hap;have hbef:Ed ops ops.size j i=false:=by
    cases hb:Ed ops ops.size j i with
    |false=>rfl
    |true=>
     have:=M4 hL ops.size j i (fun o ho e he hbb=>by
      have:o=oj:=by rw[hoj]at ho;exact(Option.some.inj ho).symm
      subst this;exact hall e he hbb) hb
     rw[hnoti]at this;cases this
   have hfree':∀k ok,ops[k]? =some ok→k≠i→(L.setIfInBounds j true).getD k true=false→(∀e∈ok.after,Region.binds .any e=true→e.on≠i)→oi.apart ops ok=true:=fun k ok hk hki hun hno=>by
    refine hfree k ok hk hki ?_ hno;by_cases hjk:j=k
    ·subst hjk;exact hjun
    ·rw[getD_set_ne true hjk]at hun;exact hun
   have hL':=D7 hL hj;have hr':=ready_mono hr (Ne.symm hji);have gdi:∀(u:AV) (A B:Prop),aGd (Ib ops) (fr.put oj.dst u) oi.guard A B=aGd (Ib ops) fr oi.guard A B:=fun u A B=>Acd a3;have yli:∀(u:AV),(fun σ'=>Yl P oi.op (fr.put oj.dst u) σ' v)=fun σ'=>Yl P oi.op fr σ' v:=fun u=>Ads a3;unfold Se;simp only[hoj];rcases H with⟨hg,hy,H⟩|⟨hg,hv,H⟩
   ·have h1:=H.2 j (ready_mono hj hji)
    unfold Se at h1;simp only[hoj]at h1;rw[Acd a1]at h1;refine H7 (fun h1=>?_) (fun h1=>?_) h1
    ·rw[Acw a1]at h1
     by_cases hcj:cls P oj.op=2
     ·refine Ke _ _ (fun u σ' h2=>?_) h1
      rw[if_pos hcj]at h2⊢;refine⟨fun p q hpq hp=>h2.1 p q (.inl hpq) hp,?_⟩;refine ih (L.setIfInBounds j true) S (fr.put oj.dst u) σ' hL' hfree' hr' (.inl ⟨fun A B hA=>by rw[gdi];exact hg A B hA,?_,?_⟩)
      ·have:=h2.1 i _ (.inr ⟨rfl,rfl⟩) hbef
       rw[show Yl P oi.op (fr.put oj.dst u) σ' v=Yl P oi.op fr σ' v from congrFun (yli u) σ'];exact this
      ·rw[yli,Array.setIfInBounds_comm _ _ hji,Jz (d:=oj.dst) (d':=oi.dst) (fun t ht e=>a2 t e ht)]
       exact h2.2
     ·obtain⟨u,h2,h3⟩:=N0 hcj h1
      rw[if_neg hcj]at h2;refine h3 _ ?_;rw[if_neg hcj];refine ih (L.setIfInBounds j true) _ (fr.put oj.dst u) σ hL' hfree' hr' (.inl ⟨fun A B hA=>by rw[gdi];exact hg A B hA,?_,?_⟩)
      ·rw[show Yl P oi.op (fr.put oj.dst u) σ v=Yl P oi.op fr σ v from congrFun (yli u) σ]
       exact hy
      ·rw[yli,Array.setIfInBounds_comm _ _ hji,Jz (d:=oj.dst) (d':=oi.dst) (fun t ht e=>a2 t e ht),Ag9]
       rw[Ads a1]at h2;exact h2
    ·refine ih (L.setIfInBounds j true) S (fr.put oj.dst (.v undef)) σ hL' hfree' hr' (.inl ⟨fun A B hA=>by rw[gdi];exact hg A B hA,?_,?_⟩)
     ·rw[show Yl P oi.op (fr.put oj.dst (.v undef)) σ v=Yl P oi.op fr σ v from congrFun (yli _) σ]
      exact hy
     ·rw[yli,Array.setIfInBounds_comm _ _ hji,Jz (d:=oj.dst) (d':=oi.dst) (fun t ht e=>a2 t e ht)]
      exact h1
   ·have h1:=H.2 j (ready_mono hj hji)
    unfold Se at h1;simp only[hoj]at h1;rw[Acd a1]at h1;refine H7 (fun h1=>?_) (fun h1=>?_) h1
    ·rw[Acw a1]at h1
     refine Ke _ _ (fun u σ' h2=>?_) h1;by_cases hcj:cls P oj.op=2
     ·rw[if_pos hcj]at h2⊢
      refine⟨h2.1,ih (L.setIfInBounds j true) S (fr.put oj.dst u) σ' hL' hfree' hr' (.inr ⟨fun A B hA=>by rw[gdi];exact hg A B hA,hv,?_⟩)⟩;rw[Array.setIfInBounds_comm _ _ hji,Jz (d:=oj.dst) (d':=oi.dst) (fun t ht e=>a2 t e ht)];exact h2.2
     ·rw[if_neg hcj]at h2⊢
      refine ih (L.setIfInBounds j true) _ (fr.put oj.dst u) σ' hL' hfree' hr' (.inr ⟨fun A B hA=>by rw[gdi];exact hg A B hA,hv,?_⟩);rw[Array.setIfInBounds_comm _ _ hji,Jz (d:=oj.dst) (d':=oi.dst) (fun t ht e=>a2 t e ht)];rw[Ads a1]at h2;exact h2
    ·refine ih (L.setIfInBounds j true) S (fr.put oj.dst (.v undef)) σ hL' hfree' hr' (.inr ⟨fun A B hA=>by rw[gdi];exact hg A B hA,hv,?_⟩)
     rw[Array.setIfInBounds_comm _ _ hji,Jz (d:=oj.dst) (d':=oi.dst) (fun t ht e=>a2 t e ht)];exact h1
inductive PS where
 |rd (i:Nat) (keep:Bool)
 |ef (i:Nat) (chk:List Nat)
def aLk(c:Nat):List (Nat×(St→Prop))→St→Prop
 | [],_=>True
 |(i,q)::r,σ=>(c=i→q σ)∧aLk c r σ
def aChk:List Nat→List (Nat×(St→Prop))→St→Prop
 | [],_,_=>True
 |c::cs,S,σ=>aLk c S σ∧aChk cs S σ
def Co(P:Program)(ds:List (Option Nat))(l:List Oper)(K:Fr→St→Prop):List PS→List (Nat×(St→Prop))→Fr→St→Prop
 | [],_,fr,σ=>K fr σ
 | .rd i keep::r,S,fr,σ=>match l[i]? with
  |none=>False
  |some o=>aGd ds fr o.guard (aOp P o.op fr σ fun v σ'=>Co P ds l K r (if keep then(i,fun σ''=>Yl P o.op fr σ'' v)::S else S) (fr.put o.dst v) σ') (Co P ds l K r S (fr.put o.dst (.v undef)) σ)
 | .ef i chk::r,S,fr,σ=>match l[i]? with
  |none=>False
  |some o=>aGd ds fr o.guard (aOp P o.op fr σ fun v σ'=>aChk chk S σ'∧Co P ds l K r S (fr.put o.dst v) σ') (Co P ds l K r S (fr.put o.dst (.v undef)) σ)
def Hi(P:Program)(ops:Array Oper)(i:Nat):Nat:=match ops[i]? with
 |some o=>cls P o.op
 |none=>3
def Fl(P:Program)(ops:Array Oper):List PS→Array Bool→List Nat→Bool
 | [],L,_=>(Region.ready .any ops L).isEmpty
 | .rd i keep::r,L,N=>(Region.ready .any ops L).contains i&&(Hi P ops i==0||(Hi P ops i==1&&keep))&&Region.free .any ops L i&&Fl P ops r (L.setIfInBounds i true) (if keep then i::N else N)
 | .ef i chk::r,L,N=>(Region.ready .any ops L== [i])&&(Hi P ops i==2)&&(N.all fun p=>Ed ops ops.size i p||chk.contains p)&&Fl P ops r (L.setIfInBounds i true) N
theorem Af7{ds:List (Option Nat)}{fr:Fr}{g:Option (Nat×Bool)}{A B:Prop}(h:aGd ds fr g A B):
  ((∀A' B':Prop,A'→aGd ds fr g A' B')∧A)∨((∀A' B':Prop,B'→aGd ds fr g A' B')∧B):=by
 unfold aGd at h⊢;cases g with
 |none=>exact .inl ⟨fun _ _ h=>h,h⟩
 |some q=>
  obtain⟨j,want⟩:=q;simp only at h⊢;revert h;generalize ds.getD j none=z;cases z with
  |none=>exact fun h=>h.elim
  |some d=>
   simp only;generalize fr d=x;cases x with
   |v y=>cases y with
    |bool b=>
     intro h;cases want<;>cases b
     ·exact .inl ⟨fun _ _ h=>h,h⟩
     ·exact .inr ⟨fun _ _ h=>h,h⟩
     ·exact .inr ⟨fun _ _ h=>h,h⟩
     ·exact .inl ⟨fun _ _ h=>h,h⟩
    |_=>exact fun h=>.inr ⟨fun _ _ h=>h,h⟩
   |_=>exact fun h=>h.elim
theorem Acl{c:Nat}{q:St→Prop}{σ:St}:∀{S:List (Nat×(St→Prop))},(c,q)∈S→aLk c S σ→q σ
 |(i,r)::S,hm,h=>by
  rcases List.mem_cons.1 hm with e|hm
  ·injection e with e1 e2
   subst e1;subst e2;exact h.1 rfl
  ·exact Acl hm h.2
theorem Wu{S:List (Nat×(St→Prop))}{σ:St}:∀{cs:List Nat} {c:Nat},c∈cs→aChk cs S σ→aLk c S σ
 |d::cs,c,hm,h=>by
  rcases List.mem_cons.1 hm with rfl|hm
  ·exact h.1
  ·exact Wu hm h.2
theorem Ir{l:List Oper}:∀(pl:List PS) (L:Array Bool) (N:List Nat) (Sl:List (Nat×(St→Prop))) (S:Mx) (fr:Fr) (σ:St),Fl P l.toArray pl L N=true→M7 l.toArray L→
  (∀p q,S p q→(∀σ',q σ')∨(p,q)∈Sl)→(∀x∈Sl,x.1∈N)→Co P (Ib l.toArray) l K pl Sl fr σ→Rj P l.toArray K pl.length L S fr σ
 | [],L,N,Sl,S,fr,σ,hok,_,_,_,h=>⟨by simpa[Fl]using hok,h⟩
 | .rd i keep::r,L,N,Sl,S,fr,σ,hok,hL,hS,hN,h=>by
  simp only[Fl,Bool.and_eq_true,Bool.or_eq_true,beq_iff_eq]at hok;obtain⟨⟨⟨hr,hc⟩,hf⟩,hok⟩:=hok;have hr:i∈Region.ready .any l.toArray L:=by simpa using hr
  simp only[Co]at h;cases hi:l[i]? with
  |none=>rw[hi]at h;exact h.elim
  |some o=>
   rw[hi]at h;have hi':l.toArray[i]? =some o:=by simpa using hi
   have hcl:Hi P l.toArray i=cls P o.op:=by simp[Hi,hi]
   rw[hcl]at hc;have hne:cls P o.op≠2:=by rcases hc with h|⟨h,_⟩<;>omega
   rcases Af7 h with⟨hg,h⟩|⟨hg,h⟩
   ·obtain⟨v,hk,hy⟩:=N0 hne h
    refine Ni hi' hne r.length L S fr σ hL (Region.free_spec hi' hf) hr (.inl ⟨hg,hy,?_⟩);refine Ir r _ _ _ _ _ _ hok (D7 hL hr) ?_ ?_ hk
    ·rintro p q (hp|⟨rfl,rfl⟩)
     ·rcases hS p q hp with h|h
      ·exact .inl h
      ·refine .inr ?_
       split
       ·exact List.mem_cons_of_mem _ h
       ·exact h
     ·rcases hc with h0|⟨_,h0⟩
      ·exact .inl fun σ'=>hy.any h0 σ'
      ·rw[if_pos h0]
       exact .inr (List.mem_cons_self ..)
    ·intro x hx
     cases keep with
     |true=>
      rcases List.mem_cons.1 hx with rfl|hx
      ·exact List.mem_cons_self ..
      ·exact List.mem_cons_of_mem _ (hN x hx)
     |false=>exact hN x hx
   ·refine Ni hi' hne r.length L S fr σ hL (Region.free_spec hi' hf) hr (.inr ⟨hg,rfl,?_⟩)
    refine Ir r _ _ _ _ _ _ hok (D7 hL hr) hS ?_ h;intro x hx;cases keep with
    |true=>exact List.mem_cons_of_mem _ (hN x hx)
    |false=>exact hN x hx
 | .ef i chk::r,L,N,Sl,S,fr,σ,hok,hL,hS,hN,h=>by
  simp only[Fl,Bool.and_eq_true,beq_iff_eq]at hok;obtain⟨⟨⟨hr,hc⟩,hn⟩,hok⟩:=hok;have hri:i∈Region.ready .any l.toArray L:=by rw[hr];simp
  refine⟨fun h=>(by rw[h]at hr;cases hr),fun j hj=>?_⟩;rw[hr]at hj;obtain rfl:j=i:=by simpa using hj
  simp only[Co]at h;cases hi:l[j]? with
  |none=>rw[hi]at h;exact h.elim
  |some o=>
   rw[hi]at h;have hi':l.toArray[j]? =some o:=by simpa using hi
   have hcl:Hi P l.toArray j=cls P o.op:=by simp[Hi,hi]
   rw[hcl]at hc;unfold Se;rw[hi'];refine H7 (fun h=>Ke _ _ (fun v σ' hv=>?_) h) (fun h=>?_) h
   ·rw[if_pos hc]
    refine⟨fun p q hpq hb=>?_,Ir r _ N Sl S _ _ hok (D7 hL hri) hS hN hv.2⟩;rcases hS p q hpq with h|h
    ·exact h σ'
    ·have:=List.all_eq_true.1 hn p (hN _ h)
     rw[hb,Bool.false_or]at this;exact Acl h (Wu (by simpa using this) hv.1)
   ·exact Ir r _ N Sl S _ _ hok (D7 hL hri) hS hN h
theorem R9{l:List Oper}{fr:Fr}{σ:St}(pl:List PS)(hm:P.follows .mixedOrders=true)(hlen:(pl.length==l.length)=true)(hok:Fl P l.toArray pl (Array.replicate l.length false) []=true)
  (h:Co P (l.map (·.dst)) l K pl (@hid _ ⟨[]⟩) fr σ):Ux P l.toArray K fr σ:=by
 refine Nw hm ?_;have e:pl.length=l.toArray.size:=by simpa using hlen
 rw[←e];refine Ir pl _ [] [] _ fr σ ?_ ?_ (fun _ _ h=>h.elim) (fun x hx=>by cases hx) h
 ·rw[e];simpa using hok
 ·intro i o hi
  rw[e]at hi;rcases Nat.lt_or_ge i l.length with h'|h'
  ·simp[Array.getElem?_replicate,h']at hi
  ·simp[Array.getElem?_replicate,Nat.not_lt.2 h']at hi
theorem Ag{P:Program}{K:Fr→St→Prop}{l:List Oper}{fr:Fr}{σ:St}(pl:List PS)(h:Co P (l.map (·.dst)) l K pl (@hid _ ⟨[]⟩) fr σ)(hm:P.follows .mixedOrders=true:=by kernel_rfl)(hlen:(pl.length==l.length)=true:=by kernel_rfl)(hok:Fl P l.toArray pl (Array.replicate l.length false) []=true:=by kernel_rfl):Ux P l.toArray K fr σ:=R9 pl hm hlen hok h
def aRd(P:Program)(ds:List (Option Nat))(l:List Oper)(K:Fr→St→Prop)(keep:Bool)(i:Nat)(r:List PS)(S:List (Nat×(St→Prop)))(fr:Fr)(σ:St):Option Oper→Prop
 |none=>False
 |some o=>aGd ds fr o.guard (aOp P o.op fr σ fun v σ'=>Co P ds l K r (if keep then(i,fun σ''=>Yl P o.op fr σ'' v)::S else S) (fr.put o.dst v) σ') (Co P ds l K r S (fr.put o.dst (.v undef)) σ)
def aEf(P:Program)(ds:List (Option Nat))(l:List Oper)(K:Fr→St→Prop)(chk:List Nat)(r:List PS)(S:List (Nat×(St→Prop)))(fr:Fr)(σ:St):Option Oper→Prop
 |none=>False
 |some o=>aGd ds fr o.guard (aOp P o.op fr σ fun v σ'=>aChk chk S σ'∧Co P ds l K r S (fr.put o.dst v) σ') (Co P ds l K r S (fr.put o.dst (.v undef)) σ)
section
variable{ds:List (Option Nat)}{l:List Oper}{S:List (Nat×(St→Prop))}{fr:Fr}{σ:St}{r:List PS}{i:Nat}{chk:List Nat}{d:Option Nat}{op:Op}{t:TypeId}{p:String}{e:Array Edge}{g:Nat×Bool}
@[go_sem] theorem Az5:Co P ds l K [] S fr σ=K fr σ:=_root_.id rfl
@[go_sem] theorem p_rd{keep:Bool}:Co P ds l K (.rd i keep::r) S fr σ=aRd P ds l K keep i r S fr σ (l[i]?):=by
 simp only[Co,aRd]
 first|done|(cases l[i]? <;>rfl)
@[go_sem] theorem p_ef:Co P ds l K (.ef i chk::r) S fr σ=aEf P ds l K chk r S fr σ (l[i]?):=by
 simp only[Co,aEf]
 first|done|(cases l[i]? <;>rfl)
@[go_sem] theorem rd_k:aRd P ds l K true i r S fr σ (some {dst:=d,op:=op,type:=t,pos:=p,after:=e,guard:=none})=aOp P op fr σ (@hid _ ⟨fun v σ'=>Co P ds l K r (@hid _ ⟨(i,fun σ''=>Yl P op fr σ'' v)::S⟩) (fr.put d v) σ'⟩):=_root_.id rfl
@[go_sem] theorem rd_n:aRd P ds l K false i r S fr σ (some {dst:=d,op:=op,type:=t,pos:=p,after:=e,guard:=none})=aOp P op fr σ (@hid _ ⟨fun v σ'=>Co P ds l K r S (fr.put d v) σ'⟩):=_root_.id rfl
@[go_sem] theorem Bah:aRd P ds l K true i r S fr σ (some {dst:=d,op:=op,type:=t,pos:=p,after:=e,guard:=some g})=aGd ds fr (some g) (@hid _ ⟨aOp P op fr σ (@hid _ ⟨fun v σ'=>Co P ds l K r (@hid _ ⟨(i,fun σ''=>Yl P op fr σ'' v)::S⟩) (fr.put d v) σ'⟩)⟩) (@hid _ ⟨Co P ds l K r S (fr.put d (.v undef)) σ⟩):=_root_.id rfl
@[go_sem] theorem Bai:aRd P ds l K false i r S fr σ (some {dst:=d,op:=op,type:=t,pos:=p,after:=e,guard:=some g})=aGd ds fr (some g) (@hid _ ⟨aOp P op fr σ (@hid _ ⟨fun v σ'=>Co P ds l K r S (fr.put d v) σ'⟩)⟩) (@hid _ ⟨Co P ds l K r S (fr.put d (.v undef)) σ⟩):=_root_.id rfl
@[go_sem] theorem ef_0:aEf P ds l K chk r S fr σ (some {dst:=d,op:=op,type:=t,pos:=p,after:=e,guard:=none})=aOp P op fr σ (@hid _ ⟨fun v σ'=>aChk chk S σ'∧Co P ds l K r S (fr.put d v) σ'⟩):=_root_.id rfl
@[go_sem] theorem ef_g:aEf P ds l K chk r S fr σ (some {dst:=d,op:=op,type:=t,pos:=p,after:=e,guard:=some g})=aGd ds fr (some g) (@hid _ ⟨aOp P op fr σ (@hid _ ⟨fun v σ'=>aChk chk S σ'∧Co P ds l K r S (fr.put d v) σ'⟩)⟩) (@hid _ ⟨Co P ds l K r S (fr.put d (.v undef)) σ⟩):=_root_.id rfl
@[go_sem] theorem Aue:aChk [] S σ=True:=_root_.id rfl
@[go_sem] theorem As3{c:Nat}{cs:List Nat}:aChk (c::cs) S σ=(aLk c S σ∧aChk cs S σ):=_root_.id rfl
@[go_sem] theorem Aw3{c:Nat}:aLk c (@hid _ ⟨[]⟩) σ=True:=_root_.id rfl
@[go_sem] theorem Avg{c:Nat}{q:St→Prop}:aLk c (@hid _ ⟨(i,q)::S⟩) σ=((c=i→q σ)∧aLk c S σ):=_root_.id rfl
@[go_sem] theorem yl_r{o:Op}{v:AV}:Yl P o fr σ v=∀k:AV→St→Prop,k v σ→aOp P o fr σ k:=_root_.id rfl
end
end
section
variable{P:Program}
theorem P7{ds:List (Option Nat)}{K K':Fr→St→Prop}(hk:∀fr σ,K fr σ→K' fr σ):∀(l:List Oper) (fr:Fr) (σ:St),My P ds l K fr σ→My P ds l K' fr σ
 | [],fr,σ,h=>hk fr σ h
 |o::l,fr,σ,h=>H7 (fun h=>Ke _ _ (fun v σ' hv=>P7 hk l _ _ hv) h) (fun h=>P7 hk l _ _ h) h
theorem Mc{ops:Array Oper}{K K':Fr→St→Prop}(hk:∀fr σ,K fr σ→K' fr σ):∀(l:List Nat) (fr:Fr) (σ:St),Jl P ops l K fr σ→Jl P ops l K' fr σ
 | [],fr,σ,h=>hk fr σ h
 |i::l,fr,σ,h=>by
  rw[Uz]at h⊢;split at h
  ·exact Mc hk l _ _ h
  ·exact H7 (fun h=>Ke _ _ (fun v σ' hv=>Mc hk l _ _ hv) h) (fun h=>Mc hk l _ _ h) h
def AK.le(K K':AK):Prop:=∀e fr σ,K e fr σ→K' e fr σ
theorem AK.le_then{A A':Fr→St→Prop}{K K':AK}(ha:∀fr σ,A fr σ→A' fr σ)(hk:K.le K'):(AK.then A K).le (AK.then A' K'):=fun e fr σ h=>by
 cases e with
 |normal=>exact ha _ _ h
 |exit id=>exact hk (.exit id) _ _ h
 |goto l=>exact hk (.goto l) _ _ h
 |ret=>exact hk .ret _ _ h
theorem Dn:∀(c:Code) {K K':AK},K.le K'→∀(fr:Fr) (σ:St),A6 P c K fr σ→A6 P c K' fr σ
 | .skip,_,_,hk,fr,σ,h=>hk .normal _ _ h
 | .label _,_,_,hk,fr,σ,h=>hk .normal _ _ h
 | .exit id,_,_,hk,fr,σ,h=>hk (.exit id) _ _ h
 | .ret,_,_,hk,fr,σ,h=>hk .ret _ _ h
 | .region _ ops false,_,_,hk,fr,σ,h=>P7 (fun fr σ h=>hk .normal _ _ h) _ _ _ h
 | .region _ ops true,_,_,hk,fr,σ,h=>fun t=>Mc (fun fr σ h=>hk .normal _ _ h) _ _ _ (h t)
 | .seq x y,_,_,hk,fr,σ,h=>Dn x (AK.le_then (fun fr σ h=>Dn y hk _ _ h) hk) _ _ h
 | .cond c x y,K,K',hk,fr,σ,h=>by
  simp only[A6]at h⊢;unfold Yp at h⊢;split at h
  ·exact Sb (fun h=>Dn x hk _ _ h) (fun h=>Dn y hk _ _ h) h
  ·exact h.elim
 | .block id x,K,K',hk,fr,σ,h=>Dn x (fun e fr σ h=>by
   cases e with
   |exit j=>
    simp only[AK.block]at h⊢;split
    ·rename_i hj;rw[if_pos hj]at h;exact hk .normal _ _ h
    ·rename_i hj;rw[if_neg hj]at h;exact hk (.exit j) _ _ h
   |normal=>exact hk .normal _ _ h
   |goto l=>exact hk (.goto l) _ _ h
   |ret=>exact hk .ret _ _ h) _ _ h
 | .scope x,K,K',hk,fr,σ,h=>Dn x (fun e fr σ h=>by
   cases e with
   |goto l=>exact h.elim
   |normal=>exact hk .normal _ _ h
   |exit j=>exact hk (.exit j) _ _ h
   |ret=>exact hk .ret _ _ h) _ _ h
 | .loop x,K,K',hk,fr,σ,⟨I,h0,hr⟩=>⟨I,h0,fun m fr σ hI=>Dn x (AK.le_then (fun _ _ h=>h) hk) _ _ (hr m fr σ hI)⟩
 | .rangeFunc g ps x y,K,K',hk,fr,σ,h=>by
  simp only[A6,K8]at h⊢;split at h
  ·intro n l h1 h2
   refine(h n l h1 h2).mono fun _ σ' h=>?_;unfold M8 at h⊢;split at h
   ·refine⟨h.1,?_⟩
    have h:=h.2;unfold Sc at h⊢;split at h
    ·exact hk .normal _ _ h
    ·exact hk .ret _ _ h
    ·exact hk (.exit _) _ _ h
    ·exact h.elim
   ·exact h.elim
  ·exact h.elim
 | .goto _,_,_,_,_,_,h=>h.elim
 | .refuse _,_,_,_,_,_,h=>h.elim
def Na(P:Program)(x:Code)(K:AK):Nat→Fr→St→Prop
 |0,_,_=>False
 |n+1,fr,σ=>A6 P x (AK.then (Na P x K n) K) fr σ
theorem Jj{x:Code}{K:AK}{fr:Fr}{σ:St}(n:Nat)(h:Na P x K n fr σ):Ah2 (@hid _ ⟨A6 P x⟩) K fr σ:=
 ⟨fun m fr σ=>Na P x K m fr σ,⟨n,h⟩,fun m fr σ h=>by
  cases m with
  |zero=>exact h.elim
  |succ m=>exact Dn x (AK.le_then (fun fr σ h=>⟨m,Nat.lt_succ_self m,h⟩) fun _ _ _ h=>h) _ _ h⟩
@[go_sem] theorem Az9{x:Code}{K:AK}{n:Nat}{fr:Fr}{σ:St}:Na P x K (n+1) fr σ=A6 P x (@hid _ ⟨AK.then (Na P x K n) K⟩) fr σ:=_root_.id rfl
end
theorem Jk{P:Program}{x:Code}{A:Fr→St→Prop}{K:AK}{fr:Fr}{σ:St}(M:Fr→St→Prop)(h1:A6 P x (@hid _ ⟨AK.then M K⟩) fr σ)(h2:∀fr σ,M fr σ→A fr σ):A6 P x (@hid _ ⟨AK.then A K⟩) fr σ:=
 Dn x (AK.le_then h2 fun _ _ _ h=>h) fr σ h1
theorem C1{P:Program}{x y:Code}{A:Fr→St→Prop}{K:AK}{fr:Fr}{σ:St}{p:Prop}[Decidable p](M:Fr→St→Prop)(h1:p→A6 P x (@hid _ ⟨AK.then M K⟩) fr σ)(h2:¬p→A6 P y (@hid _ ⟨AK.then M K⟩) fr σ)(h3:∀fr σ,M fr σ→A fr σ):
  aIf (decide p) (@hid _ ⟨A6 P x (@hid _ ⟨AK.then A K⟩) fr σ⟩) (@hid _ ⟨A6 P y (@hid _ ⟨AK.then A K⟩) fr σ⟩):=
 aIf_by (fun h=>Jk M (h1 h) h3) fun h=>Jk M (h2 h) h3
theorem Uy{P:Program}{x y:Code}{A:Fr→St→Prop}{K:AK}{fr:Fr}{σ:St}{p:Bool}(M:Fr→St→Prop)(h1:p=true→A6 P x (@hid _ ⟨AK.then M K⟩) fr σ)(h2:p=false→A6 P y (@hid _ ⟨AK.then M K⟩) fr σ)(h3:∀fr σ,M fr σ→A fr σ):
  aIf p (@hid _ ⟨A6 P x (@hid _ ⟨AK.then A K⟩) fr σ⟩) (@hid _ ⟨A6 P y (@hid _ ⟨AK.then A K⟩) fr σ⟩):=
 aIf_bool (fun h=>Jk M (h1 h) h3) fun h=>Jk M (h2 h) h3
theorem Aj{x:Int}(h: -9223372036854775808≤x∧x≤9223372036854775807):IntKind.i64.wrap x=x:=by
 simp[IntKind.wrap,IntKind.signed,IntKind.bits];omega
theorem At2{x:Int}(h:0≤x∧x≤255):IntKind.u8.wrap x=x:=by
 simp[IntKind.wrap,IntKind.signed,IntKind.bits];omega
theorem Ip{i:Nat}(h:i<9223372036854775807):IntKind.i64.wrap ((i:Int)+1)=((i+1:Nat):Int):=by
 rw[Aj (by omega)];omega
theorem Au(i:Nat)(h:i<9223372036854775807):IntKind.i64.wrap ((i:Int)+1)=((i+1:Nat):Int):=Ip h
theorem An{σ σ':St}{r:AV}(h:∀b o,σ' b=some o→σ b=some o):Gq σ r σ' r:=fun F w x hs hv=>
 ⟨F,⟨.refl F w,rfl,rfl,rfl,Nat.le_refl _,fun b _ hb=>⟨rfl,(by
  cases h':σ' b with
  |none=>rfl
  |some o=>(rw[h b o h']at hb;cases hb)),rfl⟩⟩,⟨fun b o hb=>hs.obj b o (h b o hb),hs.lt⟩,hv⟩
theorem B2{σ σ0:St}{b:Nat}{o:Cj}(hb:σ0 b=none)(h:∀x p,σ0 x=some p→σ x=some p):∀x p,σ0 x=some p→(σ.set b o) x=some p:=fun x p hx=>by
 have:x≠b:=fun e=>by subst e;rw[hb]at hx;cases hx
 rw[Af this];exact h x p hx
theorem Cy{σ σ0:St}{b:Nat}(h:∀x p,σ0 x=some p→σ x=some p)(hb:σ b=none):σ0 b=none:=by
 cases h':σ0 b with
 |none=>rfl
 |some o=>rw[h b o h']at hb;cases hb
def LAt(q:Nat)(σ:St)(lv:AV)(es:List (List AV)):Prop:=
 (lv= .v (.slice none 0 0)∧es=[])∨lv= .fsl q es∨∃b cap,lv= .v (.slice (some ⟨b,0,none⟩) es.length cap)∧es.length≤cap∧σ b=some (.rows q es false cap)
def Own(lv:AV)(x:Nat):Prop:=∃n c,lv= .v (.slice (some ⟨x,0,none⟩) n c)
section
variable{q:Nat}{σ σ':St}{lv:AV}{es ys:List (List AV)}{K:AV→Prop}{k:AV→St→Prop}
theorem LAt.none:LAt q σ (.v (.slice none 0 0)) []:=.inl ⟨rfl,rfl⟩
theorem LAt.full:LAt q σ (.fsl q es) es:=.inr (.inl rfl)
theorem LAt.cells(h:LAt q σ lv es):lv.cells=[lv]:=by
 rcases h with⟨rfl,_⟩|rfl|⟨b,cap,rfl,_⟩<;>rfl
theorem LAt.one(h:LAt q σ lv es):lv.one=true:=by
 rcases h with⟨rfl,_⟩|rfl|⟨b,cap,rfl,_⟩<;>rfl
theorem LAt.own_rows(h:LAt q σ lv es){x:Nat}(ho:Own lv x):∃cap,σ x=some (.rows q es false cap):=by
 obtain⟨n,c,ho⟩:=ho;rcases h with⟨rfl,_⟩|rfl|⟨b,cap,rfl,_,hb⟩
 ·cases ho
 ·cases ho
 ·injection ho with ho
  injection ho with ho;injection ho with ho;injection ho with ho;subst ho;exact⟨cap,hb⟩
theorem LAt.not_own(h:LAt q σ lv es){x:Nat}{cs:List AV}(hx:σ x=some (.cells cs)):¬Own lv x:=fun ho=>by
 obtain⟨c,hc⟩:=h.own_rows ho;rw[hx]at hc;cases hc
theorem LAt.keep(h:LAt q σ lv es)(hs:∀x o,σ x=some o→Own lv x→σ' x=some o):LAt q σ' lv es:=by
 rcases h with⟨rfl,he⟩|rfl|⟨b,cap,rfl,hc,hb⟩
 ·exact .inl ⟨rfl,he⟩
 ·exact .inr (.inl rfl)
 ·exact .inr (.inr ⟨b,cap,rfl,hc,hs b _ hb ⟨_,_,rfl⟩⟩)
theorem LAt.len{ag:Bool}{sz eby:Nat}{zr ez:List Value}{byt:Bool}(h:LAt q σ lv es):K7 (some ⟨ag,sz,zr,.sl q eby ez byt⟩) lv K=K (.v (.int .i64 es.length)):=by
 rcases h with⟨rfl,rfl⟩|rfl|⟨b,cap,rfl,_⟩<;>rfl
theorem LAt.upto{ag:Bool}{sz eby:Nat}{zr ez:List Value}{byt:Bool}{ik:IntKind}{j:Int}(h:LAt q σ lv es)(h0:0≤j)(h1:j≤es.length)
  (hk:∀x,(∀σ' byt',LAt q σ' lv es→src q byt' σ' x=some (es.take j.toNat))→K x):aSli (some ⟨ag,sz,zr,.sl q eby ez byt⟩) σ lv .none (some (.v (.int ik j))) .none K:=by
 rcases h with⟨rfl,rfl⟩|rfl|⟨b,cap,rfl,hc,hb⟩
 ·have hj:j=0:=by simp at h1;omega
  subst hj;exact .inr ⟨[],rfl,0,0,rfl,rfl,by omega,by omega,by simp,.inl ⟨rfl,hk _ fun σ' byt' _=>by simp[src]⟩⟩
 ·exact .inr ⟨es,by simp[view],0,j,rfl,rfl,by omega,h0,h1,.inl ⟨rfl,hk _ fun σ' byt' _=>by simp[src]⟩⟩
 ·refine .inl ⟨b,0,_,cap,rfl,0,j,cap,rfl,rfl,.inl ⟨rfl,rfl⟩,by omega,h0,by omega,by omega,?_⟩
  have e:Gn (cap:Int).toNat (0:Int).toNat 0 q=0:=by simp[Gn]
  rw[e];refine hk _ fun σ' byt' h'=>?_;rcases h' with⟨h',_⟩|h'|⟨b',cap',h',_,hb'⟩
  ·cases h'
  ·cases h'
  ·injection h' with h'
   injection h' with h' _ _;injection h' with h';injection h' with h';subst h';simp only[src,hb'];rw[if_pos ⟨trivial,by simp,by simp;omega⟩];simp
theorem LAt.from{ag:Bool}{sz eby:Nat}{zr ez:List Value}{byt:Bool}{ik:IntKind}{j:Int}(h:LAt q σ lv es)(hq:0<q)(h0:0≤j)(h1:j≤es.length)
  (hk:∀x,(∀σ' byt',LAt q σ' lv es→src q byt' σ' x=some (es.drop j.toNat))→K x):aSli (some ⟨ag,sz,zr,.sl q eby ez byt⟩) σ lv (some (.v (.int ik j))) .none .none K:=by
 rcases h with⟨rfl,rfl⟩|rfl|⟨b,cap,rfl,hc,hb⟩
 ·have hj:j=0:=by simp at h1;omega
  subst hj;exact .inr ⟨[],rfl,0,0,rfl,rfl,by omega,by omega,by simp,.inl ⟨rfl,hk _ fun σ' byt' _=>by simp[src]⟩⟩
 ·exact .inr ⟨es,by simp[view],j,es.length,rfl,rfl,h0,h1,by omega,.inl ⟨rfl,hk _ fun σ' byt' _=>by simp[src]⟩⟩
 ·refine .inl ⟨b,0,_,cap,rfl,j,es.length,cap,rfl,rfl,.inl ⟨rfl,rfl⟩,h0,h1,by omega,by omega,?_⟩
  simp only[Int.toNat_natCast];refine hk _ fun σ' byt' h'=>?_;rcases h' with⟨h',_⟩|h'|⟨b',cap',h',_,hb'⟩
  ·cases h'
  ·cases h'
  ·injection h' with h'
   injection h' with h' _ _;injection h' with h';injection h' with h';subst h';simp only[src,hb'];unfold Gn;split
   ·rename_i hm
    have:j.toNat=es.length:=by omega
    rw[if_pos ⟨trivial,by simp,by simp⟩];simp[this]
   ·rw[if_pos ⟨trivial,by simp,by simp[hq];omega⟩]
    simp only[Nat.zero_add];rw[Nat.mul_div_cancel _ hq,List.take_of_length_le (by simp)]
theorem LAt.app{eby:Nat}(h:LAt q σ lv es)(hb:(es.length+ys.length)*eby≤140737488355328)
  (hk:∀lv' σ',LAt q σ' lv' (es++ys)→(∀x o,σ x=some o→¬Own lv x→σ' x=some o∧¬Own lv' x)→k lv' σ'):Fy q eby ys σ lv k:=by
 rcases h with⟨rfl,rfl⟩|rfl|⟨b,cap,rfl,hc,hbr⟩
 ·refine⟨fun e=>?_,fun e=>⟨by simpa using hb,fun b cap hb0 hle=>?_⟩⟩
  ·subst e
   exact hk _ _ (.inl ⟨rfl,rfl⟩) fun x o hx hn=>⟨hx,hn⟩
  ·refine hk _ _ (.inr (.inr ⟨b,cap,by simp,by simpa using hle,by rw[Ab];simp⟩)) fun x o hx hn=>?_
   have hne:x≠b:=fun e=>by subst e;rw[hb0]at hx;cases hx
   refine⟨by rw[Af hne];exact hx,fun⟨n,c,ho⟩=>?_⟩;injection ho with ho;injection ho with ho _ _;injection ho with ho;injection ho with ho;exact hne ho.symm
 ·refine⟨rfl,fun e=>?_,fun e=>⟨hb,fun b cap hb0 hle=>?_⟩⟩
  ·subst e
   rw[←List.append_nil es];exact hk _ _ (by rw[List.append_nil];exact .inr (.inl rfl)) fun x o hx hn=>⟨hx,fun⟨n,c,ho⟩=>by cases ho⟩
  ·refine hk _ _ (.inr (.inr ⟨b,cap,by simp,by simpa using hle,by rw[Ab]⟩)) fun x o hx hn=>?_
   have hne:x≠b:=fun e=>by subst e;rw[hb0]at hx;cases hx
   refine⟨by rw[Af hne];exact hx,fun⟨n,c,ho⟩=>?_⟩;injection ho with ho;injection ho with ho _ _;injection ho with ho;injection ho with ho;exact hne ho.symm
 ·refine .inr (.inl ⟨rfl,?_⟩)
  simp only[hbr];refine⟨trivial,trivial,trivial,hb,fun b' cap' hb0 hle=>?_⟩;refine hk _ _ (.inr (.inr ⟨b',cap',by simp,by simpa using hle,by rw[Ab]⟩)) fun x o hx hn=>?_;have hnb:x≠b:=fun e=>by subst e;exact hn ⟨_,_,rfl⟩
  have hdel:(σ.del b) x=some o:=by simp[St.del,hnb,hx]
  have hne:x≠b':=fun e=>by subst e;rw[hb0]at hdel;cases hdel
  refine⟨by rw[Af hne];exact hdel,fun⟨n,c,ho⟩=>?_⟩;injection ho with ho;injection ho with ho _ _;injection ho with ho;injection ho with ho;exact hne ho.symm
theorem LAt.app_row{eby:Nat}(h:LAt q σ lv es)(hy:ys≠[])(hb:(es.length+ys.length)*eby≤140737488355328)
  (hk:∀b cap σ',es.length+ys.length≤cap→σ' b=some (.rows q (es++ys) false cap)→(∀x o,σ x=some o→¬Own lv x→σ' x=some o∧x≠b)→k (.v (.slice (some ⟨b,0,Option.none⟩) (es.length+ys.length) cap)) σ'):Fy q eby ys σ lv k:=by
 rcases h with⟨rfl,rfl⟩|rfl|⟨b,cap,rfl,hc,hbr⟩
 ·refine⟨fun e=>absurd e hy,fun e=>⟨by simpa using hb,fun b cap hb0 hle=>?_⟩⟩
  have:=hk b cap (σ.set b (.rows q ys false cap)) (by simpa using hle) (by rw[Ab];simp) fun x o hx hn=>?_
  ·simpa using this
  ·have hne:x≠b:=fun e=>by subst e;rw[hb0]at hx;cases hx
   exact⟨by rw[Af hne];exact hx,hne⟩
 ·refine⟨rfl,fun e=>absurd e hy,fun e=>⟨hb,fun b cap hb0 hle=>?_⟩⟩
  refine hk b cap _ hle Ab fun x o hx hn=>?_;have hne:x≠b:=fun e=>by subst e;rw[hb0]at hx;cases hx
  exact⟨by rw[Af hne];exact hx,hne⟩
 ·refine .inr (.inl ⟨rfl,?_⟩)
  simp only[hbr];refine⟨trivial,trivial,trivial,hb,fun b' cap' hb0 hle=>?_⟩;refine hk b' cap' _ hle Ab fun x o hx hn=>?_;have hnb:x≠b:=fun e=>by subst e;exact hn ⟨_,_,rfl⟩
  have hdel:(σ.del b) x=some o:=by simp[St.del,hnb,hx]
  have hne:x≠b':=fun e=>by subst e;rw[hb0]at hdel;cases hdel
  exact⟨by rw[Af hne];exact hdel,hne⟩
theorem Ap{ag:Bool}{sz eby:Nat}{zr ez:List Value}{byt:Bool}{s x:AV}(hs:src q byt σ x=some ys)(hq:0<q)(he:0<eby)(hz:ez.all Value.oneCell'=true)(h:Fy q eby ys σ s k):aApp (some ⟨ag,sz,zr,.sl q eby ez byt⟩) σ s x k:=
 ⟨hq,he,hz,ys,hs,h⟩
theorem Aa1{ag:Bool}{sz eby:Nat}{zr ez:List Value}{byt:Bool}{ik:IntKind}{j:Int}(h0:0≤j)(h1:j≤es.length)(hk:K (.sl q (es.take j.toNat))):aSli (some ⟨ag,sz,zr,.sl q eby ez byt⟩) σ (.sl q es) .none (some (.v (.int ik j))) .none K:=
 .inr ⟨es,by simp[view],0,j,rfl,rfl,by omega,h0,h1,.inl ⟨rfl,by simpa using hk⟩⟩
theorem Aa0{ag:Bool}{sz eby:Nat}{zr ez:List Value}{byt:Bool}{ik:IntKind}{j:Int}(h0:0≤j)(h1:j≤es.length)(hk:K (.sl q (es.drop j.toNat))):aSli (some ⟨ag,sz,zr,.sl q eby ez byt⟩) σ (.sl q es) (some (.v (.int ik j))) .none .none K:=
 .inr ⟨es,by simp[view],j,es.length,rfl,rfl,h0,h1,by omega,.inl ⟨rfl,by simpa using hk⟩⟩
end
inductive VW(σ σ':St):AV→AV→Prop
 |refl (a:AV):VW σ σ' a a
 |nil (q:Nat):VW σ σ' (.v (.slice none 0 0)) (.sl q [])
 |full (q:Nat) (es es':List (List AV)) (hl:es'.length=es.length) (hk:∀i,i<es.length→(es'.getD i []).length=(es.getD i []).length)
   (h:∀i j,i<es.length→j<(es.getD i []).length→VW σ σ' ((es.getD i []).getD j (.v undef)) ((es'.getD i []).getD j (.v undef))):VW σ σ' (.fsl q es) (.sl q es')
 |part (q:Nat) (es es':List (List AV)) (hl:es'.length=es.length) (hk:∀i,i<es.length→(es'.getD i []).length=(es.getD i []).length)
   (h:∀i j,i<es.length→j<(es.getD i []).length→VW σ σ' ((es.getD i []).getD j (.v undef)) ((es'.getD i []).getD j (.v undef))):VW σ σ' (.sl q es) (.sl q es')
 |rowp (b q:Nat) (es es':List (List AV)) (frz:Bool) (cap n c:Nat) (hb:σ b=some (.rows q es frz cap)) (hb':σ' b=none) (hn:n≤es.length) (hc:n≤c) (hl:es'.length=n) (hk:∀i,i<n→(es'.getD i []).length=(es.getD i []).length)
   (h:∀i j,i<n→j<(es.getD i []).length→VW σ σ' ((es.getD i []).getD j (.v undef)) ((es'.getD i []).getD j (.v undef))):VW σ σ' (.v (.slice (some ⟨b,0,none⟩) n c)) (.sl q es')
 |agg (cs cs':List AV) (hl:cs'.length=cs.length) (h:∀j,j<cs.length→VW σ σ' (cs.getD j (.v undef)) (cs'.getD j (.v undef))):VW σ σ' (.agg cs) (.agg cs')
 |tup (cs cs':List AV) (hl:cs'.length=cs.length) (h:∀j,j<cs.length→VW σ σ' (cs.getD j (.v undef)) (cs'.getD j (.v undef))):VW σ σ' (.tup cs) (.tup cs')
theorem VW.row{σ σ':St}(b q:Nat)(es es':List (List AV))(frz:Bool)(cap n c:Nat)(hb:σ b=some (.rows q es frz cap))(hb':σ' b=none)(hn:n=es.length)(hc:n≤c)(hl:es'.length=es.length)(hk:∀i,i<es.length→(es'.getD i []).length=(es.getD i []).length)
  (h:∀i j,i<es.length→j<(es.getD i []).length→VW σ σ' ((es.getD i []).getD j (.v undef)) ((es'.getD i []).getD j (.v undef))):VW σ σ' (.v (.slice (some ⟨b,0,none⟩) n c)) (.sl q es'):=
 .rowp b q es es' frz cap n c hb hb' (by omega) hc (by omega) (fun i hi=>hk i (by omega)) fun i j hi hj=>h i j (by omega) hj
theorem VW.one{σ σ':St}{a a':AV}(h:VW σ σ' a a')(h1:a.one=true):a'.one=true:=by
 cases h<;>first|exact h1|rfl|cases h1
def VWs(σ σ':St)(cs cs':List AV):Prop:=cs'.length=cs.length∧∀j,j<cs.length→VW σ σ' (cs.getD j (.v undef)) (cs'.getD j (.v undef))
def VWm(σ σ':St):List (Value×AV)→List (Value×AV)→Prop
 | [],[]=>True
 |(x,v)::l,(x',v')::l'=>x'=x∧VW σ σ' v v'∧VWm σ σ' l l'
 |_,_=>False
def OW(σ σ':St):Cj→Cj→Prop
 | .cells cs,.cells cs'=>VWs σ σ' cs cs'
 | .rows q es frz cap,.rows q' es' frz' cap'=>q'=q∧frz'=frz∧cap'=cap∧es'.length=es.length∧∀i,i<es.length→VWs σ σ' (es.getD i []) (es'.getD i [])
 | .map kv,.map kv'=>VWm σ σ' kv kv'
 | .loop fr n ps x y st pend,o'=>o'= .loop fr n ps x y st pend
 |_,_=>False
def SV(σ σ':St):Prop:=∀b o',σ' b=some o'→∃o,σ b=some o∧OW σ σ' o o'
theorem Bv{σ σ':St}(cs:List AV):VWs σ σ' cs cs:=⟨rfl,fun j _=>.refl _⟩
theorem By{σ σ':St}:VWs σ σ' [] []:=Bv []
theorem vws_cons{σ σ':St}{a a':AV}{l l':List AV}(h:VW σ σ' a a')(hl:VWs σ σ' l l'):VWs σ σ' (a::l) (a'::l'):=
 ⟨by simp[hl.1],fun j hj=>by
  cases j with
  |zero=>exact h
  |succ j=>exact hl.2 j (by simpa using hj)⟩
theorem vws_same{σ σ':St}{a:AV}{l l':List AV}(hl:VWs σ σ' l l'):VWs σ σ' (a::l) (a::l'):=vws_cons (.refl a) hl
theorem Abk{σ σ':St}:∀(kv:List (Value×AV)),VWm σ σ' kv kv
 | []=>trivial
 |(x,v)::l=>⟨rfl,.refl v,Abk l⟩
theorem Aol{σ σ':St}(o:Cj):OW σ σ' o o:=by
 cases o with
 |cells cs=>exact Bv cs
 |rows q es frz cap=>exact⟨rfl,rfl,rfl,rfl,fun i _=>Bv _⟩
 |map kv=>exact Abk kv
 |loop fr n ps x y st pend=>exact rfl
theorem Fc{σ σ':St}(h:∀x o',σ' x=some o'→σ x=some o'∨∃o,σ x=some o∧OW σ σ' o o'):SV σ σ':=fun x o' hx=>by
 rcases h x o' hx with h|h
 ·exact⟨o',h,Aol o'⟩
 ·exact h
theorem Kw{σ σ':St}{b:Nat}{o o':Cj}(h1:σ b=some o)(h2:OW σ (σ'.set b o') o o')(h3:∀x p,x≠b→σ' x=some p→σ x=some p):SV σ (σ'.set b o'):=
 Fc fun x p hx=>by
  by_cases hxb:x=b
  ·subst hxb
   rw[Ab]at hx;injection hx with hx;subst hx;exact .inr ⟨o,h1,h2⟩
  ·rw[Af hxb]at hx
   exact .inl (h3 x p hxb hx)
theorem Jn{P:Program}{Q:AV→St→Prop}{fr:Fr}{σ:St}{t tt b:Nat}{i:TK}{cs:List AV}(σ':St)(r':AV)(hfr:fr t= .v (.pointer (some ⟨b,0,none⟩)))(hb:σ b=some (.cells cs))(hi:tk P tt=some i)(hag:i.ag=true)(hsz:i.sz=cs.length)
  (hv:Gq σ (.agg cs) σ' r') (hq:Q r' σ'):Dr P Q [.cell t tt] fr σ:=
 ⟨.agg cs,by simp[A8,Q9,Sd,Yt,hfr,hi,hag,hb,hsz,oneR],r',σ',hv,hq⟩
def Eb(F:Bj)(σ σ':St):Bj:=fun b=>match σ' b,σ b with
 |none,some (.rows q es _ _)=>es.length*q
 |_,_=>F b
section
variable{F:Bj}{w:World}{σ σ':St}
theorem Agv(hs:Rel F w σ)(b:Nat):F b≤Eb F σ σ' b:=by
 unfold Eb;split
 ·rename_i q es frz cap h1 h2
  obtain⟨c,e,m,g1,g2,g3,g4,g5,g6,g7⟩:=hs.obj b _ h2;rw[g6];split<;>omega
 ·exact Nat.le_refl _
theorem Ol(hs:Rel F w σ):B7 F w (Eb F σ σ') w:=⟨Agv hs,fun _ _ _=>rfl⟩
theorem Z2{b:Nat}{o:Cj}(h:σ' b=some o):Eb F σ σ' b=F b:=by
 unfold Eb;rw[h]
theorem Abj(hs:Rel F w σ){a a':AV}(h:VW σ σ' a a'):∀x,RV F w a x→RV (Eb F σ σ') w a' x:=by
 have hkp:B7 F w (Eb F σ σ') w:=Ol hs
 induction h with
 |refl a=>exact fun x hx=>hx.mono hkp
 |nil q=>
  intro x hx;rw[hx.eq];exact .sl0 _ _ _
 |full q es es' hl hk h ih=>
  intro x hx;cases hx with
  |fsl0 _ a=>
   have:es'=[]:=List.eq_nil_of_length_eq_zero (by simpa using hl);subst this;exact .sl0 _ _ _
  |fsl _ _ b o c n hn hkk hF hc hr=>
   have hq:∀i,i<es.length→(es.getD i []).length=q∧(es.getD i []).all AV.one=true:=fun i hi=>by
    rw[List.getD_eq_getElem?_getD,List.getElem?_eq_getElem hi];exact hkk _ (List.getElem_mem hi)
   refine .sl q es' b o c n n (by omega) ?_ (Nat.le_refl _) (by rw[hl];exact Nat.le_trans hF (hkp.le b)) (fun j hj=>hc j (by rw[hl]at hj;exact hj)) (fun i j hi hj=>?_)
   ·intro e he
    obtain⟨i,hi,rfl⟩:=List.mem_iff_getElem.1 he;have hi':i<es.length:=by omega
    have e1:es'[i]=es'.getD i []:=by simp[List.getD_eq_getElem?_getD,hi]
    rw[e1];refine⟨(hk i hi').trans (hq i hi').1,List.all_eq_true.2 fun y hy=>?_⟩;obtain⟨j,hj,rfl⟩:=List.mem_iff_getElem.1 hy;have hj':j<(es.getD i []).length:=by rw[←hk i hi'];exact hj
    have:=(h i j hi' hj').one (by
     rw[List.getD_eq_getElem?_getD,List.getElem?_eq_getElem hj'];exact List.all_eq_true.1 (hq i hi').2 _ (List.getElem_mem hj'))
    rw[List.getD_eq_getElem?_getD,List.getElem?_eq_getElem hj]at this;exact this
   ·rw[hl]at hi
    exact ih i j hi (by rw[(hq i hi).1];exact hj) _ (hr i j hi hj)
 |part q es es' hl hk h ih=>
  intro x hx;cases hx with
  |sl0 _ a cap=>
   have:es'=[]:=List.eq_nil_of_length_eq_zero (by simpa using hl);subst this;exact .sl0 _ _ _
  |sl _ _ b o c n cap hn hkk hcap hF hc hr=>
   have hq:∀i,i<es.length→(es.getD i []).length=q∧(es.getD i []).all AV.one=true:=fun i hi=>by
    rw[List.getD_eq_getElem?_getD,List.getElem?_eq_getElem hi];exact hkk _ (List.getElem_mem hi)
   refine .sl q es' b o c n cap (by omega) ?_ hcap (by rw[hl];exact Nat.le_trans hF (hkp.le b)) (fun j hj=>hc j (by rw[hl]at hj;exact hj)) (fun i j hi hj=>?_)
   ·intro e he
    obtain⟨i,hi,rfl⟩:=List.mem_iff_getElem.1 he;have hi':i<es.length:=by omega
    have e1:es'[i]=es'.getD i []:=by simp[List.getD_eq_getElem?_getD,hi]
    rw[e1];refine⟨(hk i hi').trans (hq i hi').1,List.all_eq_true.2 fun y hy=>?_⟩;obtain⟨j,hj,rfl⟩:=List.mem_iff_getElem.1 hy;have hj':j<(es.getD i []).length:=by rw[←hk i hi'];exact hj
    have:=(h i j hi' hj').one (by
     rw[List.getD_eq_getElem?_getD,List.getElem?_eq_getElem hj'];exact List.all_eq_true.1 (hq i hi').2 _ (List.getElem_mem hj'))
    rw[List.getD_eq_getElem?_getD,List.getElem?_eq_getElem hj]at this;exact this
   ·rw[hl]at hi
    exact ih i j hi (by rw[(hq i hi).1];exact hj) _ (hr i j hi hj)
 |rowp b q es es' frz cap n cc hb hb' hn hcc hl hk h ih=>
  intro x hx;rw[hx.eq];obtain⟨c,e,m,g1,g2,g3,g4,g5,g6,g7⟩:=hs.obj b _ hb;have hq:∀i,i<es.length→(es.getD i []).length=q∧(es.getD i []).all AV.one=true:=fun i hi=>by
   rw[List.getD_eq_getElem?_getD,List.getElem?_eq_getElem hi];exact g4 _ (List.getElem_mem hi)
  have hle:es.length*q≤cap*q:=Nat.mul_le_mul_right _ g3;have hnl:n*q≤es.length*q:=Nat.mul_le_mul_right _ hn;have hF:Eb F σ σ' b=es.length*q:=by unfold Eb;rw[hb',hb]
  refine .sl q es' b 0 (fun j=>c.getD j undef) n cc (by omega) ?_ hcc (by rw[hl,hF];omega) (fun j hj=>?_) (fun i j hi hj=>?_)
  ·intro e he
   obtain⟨i,hi,rfl⟩:=List.mem_iff_getElem.1 he;have hi':i<n:=by omega
   have e1:es'[i]=es'.getD i []:=by simp[List.getD_eq_getElem?_getD,hi]
   rw[e1];refine⟨(hk i hi').trans (hq i (by omega)).1,List.all_eq_true.2 fun y hy=>?_⟩;obtain⟨j,hj,rfl⟩:=List.mem_iff_getElem.1 hy;have hj':j<(es.getD i []).length:=by rw[←hk i hi'];exact hj
   have:=(h i j hi' hj').one (by
    rw[List.getD_eq_getElem?_getD,List.getElem?_eq_getElem hj'];exact List.all_eq_true.1 (hq i (by omega)).2 _ (List.getElem_mem hj'))
   rw[List.getD_eq_getElem?_getD,List.getElem?_eq_getElem hj]at this;exact this
  ·rw[hl]at hj
   have hlt:j<c.size:=by omega
   simp[World.cell?,g1,hlt]
  ·rw[hl]at hi
   exact ih i j hi (by rw[(hq i (by omega)).1];exact hj) _ (g7 i j (by omega) hj)
 |agg cs cs' hl h ih=>
  intro x hx;cases hx with
  |agg _ vs hl' h'=>exact .agg cs' vs (by omega) fun j hj=>ih j (by omega) _ (h' j (by omega))
 |tup cs cs' hl h ih=>
  intro x hx;cases hx with
  |tup _ vs hl' h'=>exact .tup cs' vs (by omega) fun j hj=>ih j (by omega) _ (h' j (by omega))
theorem Af3{cs cs':List AV}(h:VWs σ σ' cs cs')(h1:cs.all AV.one=true):cs'.all AV.one=true:=List.all_eq_true.2 fun y hy=>by
 obtain⟨j,hj,rfl⟩:=List.mem_iff_getElem.1 hy;have hj':j<cs.length:=by rw[←h.1];exact hj
 have:=(h.2 j hj').one (by
  rw[List.getD_eq_getElem?_getD,List.getElem?_eq_getElem hj'];exact List.all_eq_true.1 h1 _ (List.getElem_mem hj'))
 simpa[List.getD_eq_getElem?_getD,hj]using this
theorem Alp(hs:Rel F w σ):∀{kv kv':List (Value×AV)} {es:List MapEntry},VWm σ σ' kv kv'→KVs F w kv es→KVs (Eb F σ σ') w kv' es
 | [],[],[],_,_=>trivial
 |(x,v)::l,(x',v')::l',e::es,h,g=>⟨by rw[h.1];exact g.1,Abj hs h.2.1 _ g.2.1,Alp hs h.2.2 g.2.2⟩
 | [],_::_,_,h,_=>h.elim
 |_::_,[],_,h,_=>h.elim
 | [],[],_::_,_,g=>g.elim
 |_::_,_::_,[],_,g=>g.elim
theorem view_of{a a':AV}(hS:SV σ σ')(ha:VW σ σ' a a'):Gq σ a σ' a':=by
 intro F w x hs hv;have hkp:B7 F w (Eb F σ σ') w:=Ol hs;refine⟨Eb F σ σ',⟨hkp,rfl,rfl,rfl,Nat.le_refl _,fun b _ hb=>⟨rfl,?_,?_⟩⟩,⟨fun b o' hb=>?_,fun b hb=>?_⟩,Abj hs ha x hv⟩
 ·cases h':σ' b with
  |none=>rfl
  |some o=>
   obtain⟨o,ho,_⟩:=hS b o h';rw[hb]at ho;cases ho
 ·unfold Eb
  rw[hb];split
  ·rename_i h;cases h
  ·rfl
 ·obtain⟨o,ho,how⟩:=hS b o' hb
  have hh:=hs.obj b o ho;have hFb:Eb F σ σ' b=F b:=Z2 hb;cases o with
  |cells cs=>
   cases o' with
   |cells cs'=>
    obtain⟨c,e,m,g1,g2,g3,g4,g5,g6⟩:=hh;exact⟨c,e,m,g1,by rw[g2,how.1],g3,hFb.trans g4,Af3 how g5,fun j hj=>Abj hs (how.2 j (by rw[←how.1];exact hj)) _ (g6 j (by rw[←how.1];exact hj))⟩
   |_=>exact how.elim
  |rows q es frz cap=>
   cases o' with
   |rows q' es' frz' cap'=>
    obtain⟨rfl,rfl,rfl,hl,hw⟩:=how;obtain⟨c,e,m,g1,g2,g3,g4,g5,g6,g7⟩:=hh;have hq:∀i,i<es.length→(es.getD i []).length=q'∧(es.getD i []).all AV.one=true:=fun i hi=>by
     rw[List.getD_eq_getElem?_getD,List.getElem?_eq_getElem hi];exact g4 _ (List.getElem_mem hi)
    refine⟨c,e,m,g1,g2,by omega,fun e he=>?_,g5,by rw[hFb,g6,hl],fun i j hi hj=>?_⟩
    ·obtain⟨i,hi,rfl⟩:=List.mem_iff_getElem.1 he
     have hi':i<es.length:=by omega
     have e1:es'[i]=es'.getD i []:=by simp[List.getD_eq_getElem?_getD,hi]
     rw[e1];exact⟨(hw i hi').1.trans (hq i hi').1,Af3 (hw i hi') (hq i hi').2⟩
    ·rw[hl]at hi
     exact Abj hs ((hw i hi).2 j (by rw[(hq i hi).1];exact hj)) _ (g7 i j hi hj)
   |_=>exact how.elim
  |map kv=>
   cases o' with
   |map kv'=>
    obtain⟨es,clk,g1,g2,g3⟩:=hh;exact⟨es,clk,g1,hFb.trans g2,Alp hs how g3⟩
   |_=>exact how.elim
  |loop fr n ps x y st pend=>
   have how:o'= .loop fr n ps x y st pend:=how;subst how;have:=hh.mono hkp rfl hFb;exact this
 ·unfold Eb
  split
  ·rename_i q es frz cap h1 h2
   have:=hs.lt_size h2;omega
  ·exact hs.lt b hb
end
def B9(σ0 σ:St)(lv:AV):Prop:=∀y p,σ0 y=some p→σ y=some p∧¬Own lv y
section
variable{q:Nat}{σ0 σ σ':St}{lv lv':AV}{es es':List (List AV)}
theorem B9.nil:B9 σ σ (.v (.slice none 0 0)):=fun y p h=>⟨h,fun⟨n,c,e⟩=>by cases e⟩
theorem B9.sub(h:B9 σ0 σ lv):∀y p,σ0 y=some p→σ y=some p:=fun y p hy=>(h y p hy).1
theorem B9.step(h:B9 σ0 σ lv)(hs:∀x o,σ x=some o→¬Own lv x→σ' x=some o∧¬Own lv' x):B9 σ0 σ' lv':=fun y p hy=>hs y p (h y p hy).1 (h y p hy).2
theorem B9.own(h:B9 σ0 σ lv){x:Nat}(hx:Own lv x):σ0 x=none:=by
 cases h':σ0 x with
 |none=>rfl
 |some p=>exact absurd hx (h x p h').2
theorem LAt.vw(h:LAt q σ lv es)(hd:∀x,Own lv x→σ' x=Option.none)(hl:es'.length=es.length)(hk:∀i,i<es.length→VWs σ σ' (es.getD i []) (es'.getD i [])):VW σ σ' lv (.sl q es'):=by
 rcases h with⟨rfl,rfl⟩|rfl|⟨b,cap,rfl,hc,hb⟩
 ·have:es'=[]:=List.eq_nil_of_length_eq_zero (by simpa using hl)
  subst this;exact .nil q
 ·exact .full q es es' hl (fun i hi=>(hk i hi).1) fun i j hi hj=>(hk i hi).2 j hj
 ·exact .row b q es es' false cap _ _ hb (hd b ⟨_,_,rfl⟩) rfl hc hl (fun i hi=>(hk i hi).1) fun i j hi hj=>(hk i hi).2 j hj
theorem LAt.vw_same(h:LAt q σ lv es)(hd:∀x,Own lv x→σ' x=Option.none):VW σ σ' lv (.sl q es):=h.vw hd rfl fun i _=>Bv _
end
theorem Z1(F:Bj)(σ:St):Eb F σ σ=F:=by
 funext b;unfold Eb;cases σ b<;>rfl
theorem Alq{F:Bj}{w:World}{σ:St}{cs cs':List AV}{vs:List Value}(hs:Rel F w σ)(h:VWs σ σ cs cs')(hv:RVs F w cs vs):RVs F w cs' vs:=
 ⟨hv.1.trans h.1.symm,fun j hj=>by
  have hj':j<cs.length:=by rw[←h.1];exact hj
  have:=Abj hs (h.2 j hj') _ (hv.2 j hj');rwa[Z1]at this⟩
theorem AT.weak{P:Program}{f:FuncId}{args args':List AV}{σ:St}{Q:AV→St→Prop}(h:AT P f args' σ Q)(hw:VWs σ σ args args'):AT P f args σ Q:=by
 rcases h with⟨h1,h2⟩|⟨h1,h2⟩
 ·exact .inl ⟨h1,fun F w vs hs hv=>h2 F w vs hs (Alq hs hw hv)⟩
 ·refine .inr ⟨h1,h2.elim (fun⟨h3,h2⟩=>.inl ⟨h3,?_⟩) fun h=>.inr ⟨h.1,fun F w vs hs hv=>h.2 F w vs hs (Alq hs hw hv)⟩⟩
  unfold M9 at h2;split at h2
  ·rename_i t r
   match args,hw with
   | [],hw=>exact absurd hw.1 (by simp)
   |_::_::_,hw=>exact absurd hw.1 (by simp)
   | [a],hw=>
    have:=hw.2 0 (by simp);simp only[List.getD_cons_zero]at this;cases this
    exact h2
  ·exact h2.elim
theorem AT.post{P:Program}{f:FuncId}{args:List AV}{σ:St}{Q Q':AV→St→Prop}(h:AT P f args σ Q)(hn:Vk P f=false)(hq:∀r σ',Q r σ'→∃r2 σ2,Gq σ' r σ2 r2∧Q' r2 σ2):AT P f args σ Q':=by
 rcases h with⟨h1,h2⟩|⟨h1,h2⟩
 ·refine .inl ⟨h1,fun F w vs hs hv=>(h2 F w vs hs hv).mono fun e w' ⟨x,F',σ',r,g1,g2,g3,g4,g5⟩=>?_⟩
  obtain⟨r2,σ2,hv,hq2⟩:=hq r σ' g5;obtain⟨F2,k1,k2,k3⟩:=hv F' w' x g3 g4;exact⟨x,F2,σ2,r2,g1,g2.trans k1,k2,k3,hq2⟩
 ·rw[hn]at h1;cases h1
open Go Go.RowKit Go.ChangeShapes Go.WideShapes
open Go.ChangeMaps (open_string shut_string)
def Each(p:TypeId→List AV→Prop):List TypeId→List AV→Prop
 | [],cs=>cs=[]
 |t::ts,cs=>∃x y,cs=x++y∧p t x∧Each p ts y
def Ah1(p:List AV→Prop):Nat→List AV→Prop
 |0,cs=>cs=[]
 |n+1,cs=>∃x y,cs=x++y∧p x∧Ah1 p n y
def Ty(P:Program):Nat→TypeId→List AV→Prop
 |0,_,_=>False
 |n+1,t,cs=>match P.underlying t with
  |some .bool=>∃b,cs=[.v (.bool b)]
  |some (.int k)=>∃x,cs=[.v (.int k x)]∧(Lit.int k x).wf=true
  |some .string=>∃s,cs=[.v (.string s)]∧s.size≤140737488351232
  |some (.slice e)=>∃es,cs=[.sl (P.cellsOf e) es]∧es.length*P.bytesOf e≤140737488351232∧∀x∈es,Ty P n e x
  |some (.struct fs)=>Each (Ty P n) (fs.toList.map Field.type) cs
  |some (.array k e)=>Ah1 (Ty P n e) k cs
  |_=>False
def TyA(P:Program)(n:Nat)(t:TypeId)(a:AV):Prop:=
 match P.underlying t with
 |some (.struct _)|some (.array _ _)=>∃cs,a= .agg cs∧Ty P n t cs
 |_=>Ty P n t [a]
def TyAs(P:Program)(n:Nat):List TypeId→List AV→Prop
 | [],[]=>True
 |t::ts,a::as=>TyA P n t a∧TyAs P n ts as
 |_,_=>False
theorem Alg{P:Program}{n:Nat}{xs:List AV}(h:TyAs P n [] xs):xs=[]:=by
 cases xs with
 |nil=>rfl
 |cons a xs=>exact h.elim
theorem Wa{P:Program}{n:Nat}{t:TypeId}{ts:List TypeId}{xs:List AV}(h:TyAs P n (t::ts) xs):∃a ys,xs=a::ys∧TyA P n t a∧TyAs P n ts ys:=by
 cases xs with
 |nil=>exact h.elim
 |cons a xs=>exact⟨a,xs,rfl,h.1,h.2⟩
theorem At1{P:Program}{n:Nat}{t:TypeId}{xs:List AV}(h:TyAs P n [t] xs):∃a,xs=[a]∧TyA P n t a:=by
 obtain⟨a,ys,rfl,ha,h⟩:=Wa h;obtain rfl:=Alg h;exact⟨a,rfl,ha⟩
theorem tyAs2{P:Program}{n:Nat}{t u:TypeId}{xs:List AV}(h:TyAs P n [t,u] xs):∃a b,xs=[a,b]∧TyA P n t a∧TyA P n u b:=by
 obtain⟨a,ys,rfl,ha,h⟩:=Wa h;obtain⟨b,rfl,hb⟩:=At1 h;exact⟨a,b,rfl,ha,hb⟩
theorem Af1{P:Program}{n:Nat}{t:TypeId}{cs:List AV}(hu:P.underlying t=some .bool)(h:Ty P (n+1) t cs):∃b,cs=[.v (.bool b)]:=by
 unfold Ty at h;rw[hu]at h;exact h
theorem Yg{P:Program}{n:Nat}{t:TypeId}{k:IntKind}{cs:List AV}(hu:P.underlying t=some (.int k))(h:Ty P (n+1) t cs):∃x,cs=[.v (.int k x)]∧(Lit.int k x).wf=true:=by
 unfold Ty at h;rw[hu]at h;exact h
theorem Jh{P:Program}{n:Nat}{t:TypeId}{cs:List AV}(hu:P.underlying t=some .string)(h:Ty P (n+1) t cs):∃s,cs=[.v (.string s)]∧s.size≤140737488351232:=by
 unfold Ty at h;rw[hu]at h;exact h
theorem Ui{P:Program}{n:Nat}{t e:TypeId}{cs:List AV}(hu:P.underlying t=some (.slice e))(h:Ty P (n+1) t cs):∃es,cs=[.sl (P.cellsOf e) es]∧es.length*P.bytesOf e≤140737488351232∧∀x∈es,Ty P n e x:=by
 unfold Ty at h;rw[hu]at h;exact h
theorem Rf{P:Program}{n:Nat}{t:TypeId}{fs:Array Field}{cs:List AV}(hu:P.underlying t=some (.struct fs))(h:Ty P (n+1) t cs):Each (Ty P n) (fs.toList.map Field.type) cs:=by
 unfold Ty at h;rw[hu]at h;exact h
def Ti(P:Program):Nat→List Field→Nat→Bool
 |o,[],m=>o==m
 |o,f::fs,m=>f.offset==o&&Ti P (o+P.cellsOf f.type) fs m
def plain(P:Program):Nat→TypeId→Bool
 |0,_=>false
 |n+1,t=>match P.underlying t with
  |some .bool|some (.int _)|some .string=>P.cellsOf t==1
  |some (.slice e)=>P.cellsOf t==1&&plain P n e&&decide (0<P.cellsOf e)
  |some (.struct fs)=>Ti P 0 fs.toList (P.cellsOf t)&&fs.toList.all fun f:Field=>plain P n f.type
  |some (.array k e)=>P.cellsOf t==k*P.cellsOf e&&plain P n e
  |_=>false
def Nk(w:World):Bj:=fun b=>match w.heap[b]? with
 |some (.cells c _ _)=>c.size
 |_=>0
theorem Ahe(w:World):Rel (Nk w) w (fun _=>none):=
 ⟨fun b o h=>(by cases h),fun b hb=>(by simp[Nk,Array.getElem?_eq_none hb])⟩
theorem Agw{w:World}{b o:Nat}{v:Value}(h:w.cell? ⟨b,o,none⟩=some v):o<Nk w b:=by
 unfold World.cell? at h;unfold Nk;split at h
 ·rename_i c e m hc
  simp only at hc;rw[hc];simp at h;exact(Array.getElem?_eq_some_iff.1 h).1
 ·cases h
theorem Y1{p:Nat→List AV→Prop}(n:Nat)(h:∀i,i<n→∃x,p i x):∃es:List (List AV),es.length=n∧∀i,i<n→p i (es.getD i []):=by
 induction n with
 |zero=>exact⟨[],rfl,fun i hi=>by omega⟩
 |succ n ih=>
  obtain⟨es,h1,h2⟩:=ih fun i hi=>h i (by omega);obtain⟨x,hx⟩:=h n (by omega);refine⟨es++[x],by simp[h1],fun i hi=>?_⟩;by_cases hin:i<n
  ·have:=h2 i hin
   simpa[List.getD_eq_getElem?_getD,List.getElem?_append_left (h1▸hin)]using this
  ·obtain rfl:i=n:=by omega
   simpa[List.getD_eq_getElem?_getD,←h1]using hx
section
variable{H:Type}{enc:TypeId×Value→H}{P:Program}{w:World}
theorem RVs.one1{F:Bj}{a:AV}{x:Value}(h:RV F w a x):RVs F w [a] [x]:=
 ⟨rfl,fun j hj=>by
  obtain rfl:j=0:=by simpa using hj
  exact h⟩
theorem RVs.app{F:Bj}{cs cs':List AV}{vs vs':List Value}(h:RVs F w cs vs)(h':RVs F w cs' vs'):RVs F w (cs++cs') (vs++vs'):=
 ⟨by simp[h.1,h'.1],fun j hj=>by
  simp only[List.getD_eq_getElem?_getD];by_cases hlt:j<cs.length
  ·rw[List.getElem?_append_left hlt,List.getElem?_append_left (by rw[h.1];exact hlt)]
   simpa[List.getD_eq_getElem?_getD]using h.2 j hlt
  ·rw[List.getElem?_append_right (by omega),List.getElem?_append_right (by rw[h.1];omega),h.1]
   have:=h'.2 (j-cs.length) (by simp at hj;omega);simpa[List.getD_eq_getElem?_getD]using this⟩
def Adv(P:Program)(n:Nat)(w:World)(t:TypeId)(cs:List Value):Prop:=
 ∃avs,Ty P n t avs∧RVs (Nk w) w avs cs∧avs.all AV.one=true∧avs.length=P.cellsOf t
theorem Vb{n m:Nat}{cs:List Value}(ih:∀(t:TypeId) (cs:List Value) (x:DataW H×List MemPlace),plain P n t=true→DataW.trod enc P w 0 (fun _=>true) true m t cs=some x→(∀q∈x.1.weights P t,q≤reachBytes)→Adv P n w t cs):
  ∀(fs:List Field) (o:Nat) (xs:List (DataW H×List MemPlace)),Ti P o fs cs.length=true→(fs.all fun f:Field=>plain P n f.type)=true→xs.length=fs.length→
   (∀(i:Nat) (f:Field),fs[i]? =some f→DataW.trod enc P w 0 (fun _=>true) true m f.type ((cs.drop f.offset).take (P.cellsOf f.type))=xs[i]?)→
   (∀q∈DataW.weightsEach P (fs.map Field.type) (xs.map (·.1)),q≤reachBytes)→
   ∃avs,Each (Ty P n) (fs.map Field.type) avs∧RVs (Nk w) w avs (cs.drop o)∧avs.all AV.one=true∧o+avs.length=cs.length
 | [],o,xs,hf,hp,hl,hx,hw=>by
  simp only[Ti,beq_iff_eq]at hf;refine⟨[],rfl,⟨by simp[hf],fun j hj=>by simp at hj⟩,rfl,by simpa using hf⟩
 |f::fs,o,[],hf,hp,hl,hx,hw=>by simp at hl
 |f::fs,o,x::xs,hf,hp,hl,hx,hw=>by
  simp only[Ti,Bool.and_eq_true,beq_iff_eq]at hf;simp only[List.all_cons,Bool.and_eq_true]at hp;have h0:=hx 0 f rfl;simp only[List.getElem?_cons_zero]at h0;obtain⟨a,a1,a2,a3,a4⟩:=ih f.type _ x hp.1 h0 (fun q hq=>hw q (by simp only[List.map_cons,DataW.weightsEach,List.mem_append];exact .inl hq));obtain⟨b,b1,b2,b3,b4⟩:=Vb (cs:=cs) ih fs (o+P.cellsOf f.type) xs hf.2 hp.2 (by simpa using hl) (fun i g hg=>by simpa using hx (i+1) g (by simpa using hg)) (fun q hq=>hw q (by simp only[List.map_cons,DataW.weightsEach,List.mem_append];exact .inr hq));refine⟨a++b,⟨a,b,rfl,a1,b1⟩,?_,by simp[a3,b3],by simp;omega⟩;have hcut:cs.drop o=(cs.drop f.offset).take (P.cellsOf f.type)++cs.drop (o+P.cellsOf f.type):=by
   rw[hf.1,←List.drop_drop,List.take_append_drop]
  rw[hcut];exact a2.app b2
theorem Ug{n m:Nat}{e:TypeId}{cs:List Value}(ih:∀(cs:List Value) (x:DataW H×List MemPlace),DataW.trod enc P w 0 (fun _=>true) true m e cs=some x→(∀q∈x.1.weights P e,q≤reachBytes)→Adv P n w e cs):
  ∀(k o:Nat) (xs:List (DataW H×List MemPlace)),o+k*P.cellsOf e=cs.length→xs.length=k→
   (∀i,i<k→DataW.trod enc P w 0 (fun _=>true) true m e ((cs.drop (o+i*P.cellsOf e)).take (P.cellsOf e))=xs[i]?)→
   (∀q∈DataW.weightsAll P e (xs.map (·.1)),q≤reachBytes)→
   ∃avs,Ah1 (Ty P n e) k avs∧RVs (Nk w) w avs (cs.drop o)∧avs.all AV.one=true∧o+avs.length=cs.length
 |0,o,xs,hf,hl,hx,hw=>by
  simp only[Nat.zero_mul,Nat.add_zero]at hf;refine⟨[],rfl,⟨by simp[hf],fun j hj=>by simp at hj⟩,rfl,by simpa using hf⟩
 |k+1,o,[],hf,hl,hx,hw=>by simp at hl
 |k+1,o,x::xs,hf,hl,hx,hw=>by
  have h0:=hx 0 (by omega);simp only[List.getElem?_cons_zero,Nat.zero_mul,Nat.add_zero]at h0;rw[Nat.add_mul,Nat.one_mul]at hf;obtain⟨a,a1,a2,a3,a4⟩:=ih _ x h0 (fun q hq=>hw q (by simp only[List.map_cons,DataW.weightsAll,List.mem_append];exact .inl hq))
  obtain⟨b,b1,b2,b3,b4⟩:=Ug (cs:=cs) ih k (o+P.cellsOf e) xs (by omega) (by simpa using hl) (fun i hi=>by
   have:=hx (i+1) (by omega);rw[Nat.add_mul,Nat.one_mul]at this;rw[show o+P.cellsOf e+i*P.cellsOf e=o+(i*P.cellsOf e+P.cellsOf e) by omega];simpa using this) (fun q hq=>hw q (by simp only[List.map_cons,DataW.weightsAll,List.mem_append];exact .inr hq))
  refine⟨a++b,⟨a,b,rfl,a1,b1⟩,?_,by simp[a3,b3],by rw[List.length_append];omega⟩;have hcut:cs.drop o=(cs.drop o).take (P.cellsOf e)++cs.drop (o+P.cellsOf e):=by
   rw[←List.drop_drop,List.take_append_drop]
  rw[hcut];exact a2.app b2
theorem L8{e:TypeId}:∀{ds:List (DataW H)} {d:DataW H},d∈ds→∀q∈d.weights P e,q∈DataW.weightsAll P e ds
 |d0::ds,d,hd,q,hq=>by
  simp only[DataW.weightsAll,List.mem_append];rcases List.mem_cons.1 hd with rfl|hd
  ·exact .inl hq
  ·exact .inr (L8 hd q hq)
theorem Acx:∀(n:Nat) (m:Nat) (t:TypeId) (cs:List Value) (x:DataW H×List MemPlace),plain P n t=true→DataW.trod enc P w 0 (fun _=>true) true m t cs=some x→(∀q∈x.1.weights P t,q≤reachBytes)→Adv P n w t cs:=by
 intro n
 induction n with
 |zero=>intro m t cs x hp;simp[plain]at hp
 |succ n ih=>
  intro m t cs x hp hx hw;unfold plain at hp;unfold Adv;unfold Ty;cases hu:P.underlying t with
  |none=>rw[hu]at hp;cases hp
  |some d=>
   rw[hu]at hp;cases d<;>simp only at hp<;>try (exact absurd hp (by decide))
   case bool=>
    obtain⟨b,rfl,rfl⟩:=DataW.trod_bool hu hx;exact⟨[.v (.bool b)],⟨b,rfl⟩,RVs.one1 (.v _),rfl,by simpa using(beq_iff_eq.1 hp).symm⟩
   case int k=>
    obtain⟨b,rfl,rfl,hwf⟩:=DataW.trod_int hu hx;exact⟨[.v (.int k b)],⟨b,rfl,hwf⟩,RVs.one1 (.v _),rfl,by simpa using(beq_iff_eq.1 hp).symm⟩
   case string=>
    obtain⟨s,rfl,rfl,hs⟩:=DataW.trod_string hu hx;refine⟨[.v (.string s)],⟨s,rfl,?_⟩,RVs.one1 (.v _),rfl,by simpa using(beq_iff_eq.1 hp).symm⟩;have:=hw s.data.toList.length (by simp[DataW.weights]);simpa[reachBytes]using this
   case slice e=>
    simp only[Bool.and_eq_true,beq_iff_eq,decide_eq_true_eq]at hp;obtain⟨⟨hp1,hp2⟩,hp3⟩:=hp;rcases DataW.trod_slice hu hx with⟨rfl,rfl⟩|⟨a,len,cap,elems,rest,m',rfl,rfl,rfl,hb,hl,hm,hlen,hel,hsp,hns⟩
    ·exact⟨[.sl (P.cellsOf e) []],⟨[],rfl,by simp,fun x hx=>by cases hx⟩,RVs.one1 (.sl0 _ _ _),rfl,by simpa using hp1.symm⟩
    ·simp only[DataW.weights,hu,List.mem_cons,List.mem_append]at hw
     have hbytes:=hw _ (.inl rfl);have each:∀i,i<len→∃avs,(Ty P n e avs∧avs.all AV.one=true∧avs.length=P.cellsOf e)∧∃vs:List Value,vs.length=P.cellsOf e∧(∀j,j<P.cellsOf e→w.cell? ((a.add (i*P.cellsOf e)).add j)=vs[j]?)∧RVs (Nk w) w avs vs:=by
      intro i hi;have h1:=hel i hi;have hi':i<elems.length:=by omega
      rw[List.getElem?_eq_getElem hi']at h1;obtain⟨vs,hcs,htr⟩:=Option.bind_eq_some_iff.1 h1;obtain⟨_,hvl,hvs⟩:=World.cells?_some hcs;obtain⟨avs,k1,k2,k3,k4⟩:=ih m' e vs _ hp2 htr (fun q hq=>hw q (.inr (.inl (L8 (List.mem_map.2 ⟨_,List.getElem_mem hi',rfl⟩) q hq))));exact⟨avs,⟨k1,k3,k4⟩,vs,hvl,hvs,k2⟩
     obtain⟨es,he1,he2⟩:=Y1 len each;refine⟨[.sl (P.cellsOf e) es],⟨es,rfl,?_,?_⟩,RVs.one1 ?_,rfl,by simpa using hp1.symm⟩
     ·have:es.length*P.bytesOf e≤((elems.map (·.1)).length+(rest.map (·.1)).length)*P.bytesOf e:=Nat.mul_le_mul_right _ (by simp;omega)
      exact Nat.le_trans this (by simpa[reachBytes]using hbytes)
     ·intro x hx
      obtain⟨i,hi,rfl⟩:=List.mem_iff_getElem.1 hx;have:=(he2 i (by omega)).1.1;simpa[List.getD_eq_getElem?_getD,hi]using this
     ·by_cases h0:len=0
      ·have:es=[]:=List.eq_nil_of_length_eq_zero (by omega)
       subst this;subst h0;exact .sl0 _ _ _
      ·obtain⟨b,o,sp⟩:=a
       have hsp0:sp=none:=by
        obtain⟨_,vs,hvl,hvs,_⟩:=he2 0 (by omega);have h1:=hvs 0 hp3;rw[List.getElem?_eq_getElem (by omega)]at h1;simp only[Nat.zero_mul,Addr.add,if_pos]at h1;unfold World.cell? at h1;split at h1
        ·cases sp with
         |none=>rfl
         |some _=>simp at h1
        ·cases h1
       subst hsp0;have hadd:∀b o n,(⟨b,o,none⟩:Addr).add n=⟨b,o+n,none⟩:=by
        intro b o n;unfold Addr.add;split
        ·rename_i h;subst h;rfl
        ·rfl
       have hcell:∀i j,i<len→j<P.cellsOf e→∃v,w.cell? ⟨b,o+(i*P.cellsOf e+j),none⟩=some v∧RV (Nk w) w ((es.getD i []).getD j (.v undef)) v:=by
        intro i j hi hj;obtain⟨⟨k1,k3,k4⟩,vs,hvl,hvs,hrv⟩:=he2 i hi;have h1:=hvs j hj;rw[List.getElem?_eq_getElem (by omega),hadd,hadd]at h1;refine⟨vs[j]'(by omega),?_,?_⟩
        ·simpa[Nat.add_assoc]using h1
        ·have:=hrv.2 j (by omega)
         simpa[List.getD_eq_getElem?_getD,hvl,hj]using this
       have hall:∀j,j<es.length*P.cellsOf e→w.cell? ⟨b,o+j,none⟩=some ((w.cell? ⟨b,o+j,none⟩).getD undef):=by
        intro j hj;obtain⟨v,hv,_⟩:=hcell (j/P.cellsOf e) (j % P.cellsOf e) (by rw[←he1];exact Nat.div_lt_of_lt_mul (by rw[Nat.mul_comm];exact hj)) (Nat.mod_lt _ hp3);rw[Nat.mul_comm,Nat.div_add_mod]at hv;rw[hv];rfl
       refine .sl _ es b o (fun j=>(w.cell? ⟨b,o+j,none⟩).getD undef) len cap he1.symm ?_ hl ?_ hall ?_
       ·intro x hx
        obtain⟨i,hi,rfl⟩:=List.mem_iff_getElem.1 hx;obtain⟨⟨k1,k3,k4⟩,_⟩:=he2 i (by omega);have e1:es.getD i []=es[i]:=by simp[List.getD_eq_getElem?_getD,hi]
        rw[e1]at k3 k4;exact⟨k4,k3⟩
       ·have hpos:0<es.length*P.cellsOf e:=Nat.mul_pos (by omega) hp3
        have:=Agw (hall (es.length*P.cellsOf e-1) (by omega));omega
       ·intro i j hi hj
        obtain⟨v,hv,hr⟩:=hcell i j (by omega) hj;simp only[hv,Option.getD_some];exact hr
   case struct fs=>
    simp only[Bool.and_eq_true]at hp;obtain⟨xs,m',rfl,rfl,hcl,hxl,hxs⟩:=DataW.trod_struct hu hx;simp only[DataW.weights,hu]at hw;obtain⟨avs,h1,h2,h3,h4⟩:=Vb (n:=n) (m:=m') (cs:=cs) (fun t cs x=>ih m' t cs x) fs.toList 0 xs (by rw[hcl];exact hp.1) hp.2 (by simpa using hxl) (fun i f hf=>hxs i f (by simpa using hf)) hw;exact⟨avs,h1,by simpa using h2,h3,by omega⟩
   case array k e=>
    simp only[Bool.and_eq_true,beq_iff_eq]at hp;obtain⟨xs,m',rfl,rfl,hcl,hxl,hxs⟩:=DataW.trod_array hu hx;simp only[DataW.weights,hu]at hw;obtain⟨avs,h1,h2,h3,h4⟩:=Ug (n:=n) (m:=m') (e:=e) (cs:=cs) (fun cs x=>ih m' e cs x hp.2) k 0 xs (by rw[hcl,hp.1];simp) hxl (fun i hi=>by simpa using hxs i hi) hw;exact⟨avs,h1,by simpa using h2,h3,by omega⟩
theorem Akp{n:Nat}{t:TypeId}{v:Value}{d:DataW H}{ps:List MemPlace}{base:Nat}(hp:plain P n t=true)(hval:Value.okWide P w .any base t v)(h:DataW.Trod enc P w 0 (fun _=>true) true t v d ps)(hw:∀q∈d.weights P t,q≤reachBytes):
  ∃a,TyA P n t a∧RV (Nk w) w a v:=by
 obtain⟨m,hm⟩:=h;obtain⟨avs,h1,h2,h3,h4⟩:=Acx n m t _ _ hp hm hw;have agg:∀cs:Array Value,v= .agg cs→RV (Nk w) w (.agg avs) v:=by
  rintro cs rfl;exact .agg avs cs (by simpa[Value.cells]using h2.1) (fun j hj=>by simpa[Value.cells]using h2.2 j hj)
 have one:∀x,v.cells.toList=[x]→v=x→∃a,avs=[a]∧RV (Nk w) w a v:=by
  rintro x hx rfl;rw[hx]at h2;obtain⟨a,rfl⟩:∃a,avs=[a]:=List.length_eq_one_iff.1 (by have:=h2.1;simpa using this.symm);exact⟨a,rfl,h2.2 0 (by simp)⟩
 unfold TyA;cases n with
 |zero=>simp[plain]at hp
 |succ n=>
  have hp0:=hp;unfold plain at hp0;cases hu:P.underlying t with
  |none=>rw[hu]at hp0;cases hp0
  |some u=>
   rw[hu]at hp0;cases u<;>simp only at hp0<;>try (exact absurd hp0 (by decide))
   case struct fs=>
    unfold Value.okWide at hval;rw[hu]at hval;obtain⟨cs,hv,_⟩:=hval;exact⟨_,⟨avs,rfl,h1⟩,agg cs hv⟩
   case array k e=>
    unfold Value.okWide at hval;rw[hu]at hval;obtain⟨cs,hv,_⟩:=hval;exact⟨_,⟨avs,rfl,h1⟩,agg cs hv⟩
   case bool=>
    obtain⟨b,rfl,_⟩:=open_bool hu hval ⟨m,hm⟩;obtain⟨a,rfl,ha⟩:=one _ rfl rfl;exact⟨a,h1,ha⟩
   case int k=>
    obtain⟨b,rfl,_⟩:=open_int hu hval ⟨m,hm⟩;obtain⟨a,rfl,ha⟩:=one _ rfl rfl;exact⟨a,h1,ha⟩
   case string=>
    obtain⟨b,rfl,_⟩:=open_string hu hval ⟨m,hm⟩;obtain⟨a,rfl,ha⟩:=one _ rfl rfl;exact⟨a,h1,ha⟩
   case slice e=>
    obtain⟨a,len,cap,rfl⟩:=okWide_slice hu hval;obtain⟨a,rfl,ha⟩:=one _ rfl rfl;exact⟨a,h1,ha⟩
theorem open_args{n base:Nat}:∀(ts:List TypeId) (vs:List Value) (ds:List (DataW H)) (ps:List MemPlace),ts.all (plain P n)=true→(∀(j:Nat) t v,ts[j]? =some t→vs[j]? =some v→Value.okWide P w .any base t v)→
  DataW.TrodAll enc P w 0 (fun _=>true) true ts vs ds ps→(∀q∈DataW.weightsEach P ts ds,q≤reachBytes)→∃as,TyAs P n ts as∧RVs (Nk w) w as vs
 | [],[],[],ps,_,_,_,_=>⟨[],trivial,rfl,fun j hj=>by simp at hj⟩
 |t::ts,v::vs,d::ds,ps,hp,hval,h,hw=>by
  obtain⟨p,q,h1,h2,rfl⟩:=h;simp only[List.all_cons,Bool.and_eq_true]at hp;simp only[DataW.weightsEach,List.mem_append]at hw;obtain⟨a,ha,hr⟩:=Akp hp.1 (hval 0 t v rfl rfl) h1 (fun q hq=>hw q (.inl hq));obtain⟨as,has,hrs⟩:=open_args ts vs ds q hp.2 (fun j t v ht hv=>hval (j+1) t v (by simpa using ht) (by simpa using hv)) h2 (fun q hq=>hw q (.inr hq));exact⟨a::as,⟨ha,has⟩,(RVs.one1 hr).app hrs⟩
 | [],_::_,_,_,_,_,h,_=>h.elim
 | [],[],_::_,_,_,_,h,_=>h.elim
 |_::_,[],_,_,_,_,h,_=>h.elim
 |_::_,_::_,[],_,_,_,h,_=>h.elim
theorem shut_args{W':World}(hl:laidOutB P=true)(hb:Below w.heap.size w W'):∀(ts:List TypeId) (vs:List Value) (ds:List (DataW H)) (ps:List MemPlace),(ts.all fun t=>P.readableRec t&&decide (t<P.types.size))=true→
  DataW.TrodAll enc P w 0 (fun _=>true) true ts vs ds ps→DataW.TrodAll enc P W' 0 (fun b=>decide (b<w.heap.size)) true ts vs ds ps
 | [],[],[],ps,_,h=>h
 |t::ts,v::vs,d::ds,ps,hr,h=>by
  obtain⟨p,q,h1,h2,rfl⟩:=h;simp only[List.all_cons,Bool.and_eq_true,decide_eq_true_eq]at hr;refine⟨p,q,Below.trod hl hr.1.1 hr.1.2 h1 hb ?_,shut_args hl hb ts vs ds q hr.2 h2,rfl⟩;obtain⟨m,hm⟩:=h1;exact DataW.trod_lt m _ _ _ hm
 | [],_::_,_,_,_,h=>h.elim
 | [],[],_::_,_,_,h=>h.elim
 |_::_,[],_,_,_,h=>h.elim
 |_::_,_::_,[],_,_,h=>h.elim
theorem AT.law{f:FuncId}{as:List AV}{args:Array Value}(hb:Vk P f=false)(h:AT P f as (fun _=>none) fun r _=>r= .v (.bool true))(hr:RVs (Nk w) w as args.toList):Calls P f args w fun e w'=>e= .returned (.bool true)∧Below w.heap.size w w':=by
 replace h:=h.resolve_right (fun⟨h,_⟩=>by rw[hb]at h;cases h)
 have:=h.2 (Nk w) w args.toList (Ahe w) hr;rw[Array.toArray_toList]at this;refine this.mono fun e w' ⟨x,F',σ',r,h1,h2,h3,h4,h5⟩=>?_;subst h5;refine⟨by rw[h1,h4.eq],h2.os,h2.tape,h2.output,h2.size,fun b hb=>(h2.old b hb rfl).1⟩
end
theorem Afd{P:Program}{f:FuncId}{fn:Func}{t:TypeId}{ag byt:Bool}{sz q q1 eby b p m c cap:Nat}{zr ez:List Value}{es es1:List (List AV)}{σ:St}
  (hf:P.funcs[f]? =some fn) (hbody:fn.body=none) (hname:(fn.name== "runtime.NumGoroutine")=false) (hnext:Extern.findNext fn=none) (hfind:Extern.find fn=some (Extern.SlicesOverlaps.overlaps fn.params fn.resultTypes))
  (hp0:fn.params[0]? =some t) (ht:tk P t=some ⟨ag,sz,zr,.sl q eby ez byt⟩) (hb:σ b=some (.rows q es false cap)) (hq:1<q) (hq1:0<q1) (hp:p≤cap*q):
  AT P f [.fsl q1 es1,.v (.slice (some ⟨b,p,none⟩) m c)] σ fun r σ'=>r= .v (.bool false)∧σ'=σ:=by
 refine .inr ⟨by unfold Vk;rw[hf];simp[hbody],.inr ⟨⟨fn,hf,hbody⟩,fun F w vs hs hv=>?_⟩⟩;obtain⟨X,Y,rfl⟩:∃X Y,vs=[X,Y]:=by
  match vs,hv.1 with
  | [X,Y],_=>exact⟨X,Y,rfl⟩
 have hX:=hv.2 0 (by simp);have hY:=hv.2 1 (by simp);simp only[List.getD_cons_zero,List.getD_cons_succ]at hX hY;have hYe:=hY.eq;subst hYe;obtain⟨inf,d,z,h1,h2,h3,h4,h5,h6,h7,h8⟩:=Br ht;obtain⟨e,ie,ze,rfl,k1,rfl,rfl,k4,rfl,k6,k7⟩:=J6 (P:=P) (d:=d) h7.symm;have hrun:=run_callFunc_extern (P:=P) hf hname (by simp[hbody]) hnext hfind #[X,.slice (some ⟨b,p,none⟩) m c] w;obtain⟨cc,e',mm,g1,g2,g3,g4,g5,g6,g7⟩:=hs.obj b _ hb;have hps:p≤cc.size:=Nat.le_trans hp g2;have fb1:w.frozen? ⟨b,p,none⟩=false:=by
  have:=g5 p (by omega);simp only[World.frozen?,g1];simpa using this
 have fb2:w.frozen? ⟨b,cc.size,none⟩=false:=by
  have:=g5 cc.size (.inr ⟨hq,rfl⟩);simp only[World.frozen?,g1];simpa using this
 have sb:w.shape? b=some (e',cc.size):=by simp[World.shape?,g1]
 have done:∀ad la lc,X= .slice ad la lc→(Extern.SlicesOverlaps.overlaps fn.params fn.resultTypes #[X,.slice (some ⟨b,p,none⟩) m c]).run P w= .ok (.bool false) w→
   (∀x∈[X,Value.slice (some ⟨b,p,none⟩) m c],∃a n c,x= .slice a n c)∧∃x r,(callFunc f [X,Value.slice (some ⟨b,p,none⟩) m c].toArray).run P w= .ok (.value x) w∧RV F w r x∧r= .v (.bool false)∧σ=σ:=fun ad la lc hXs hr=>by
  refine⟨fun x hx=>?_,.bool false,.v (.bool false),?_,.v _,rfl,rfl⟩
  ·rcases List.mem_cons.1 hx with rfl|hx
   ·exact⟨_,_,_,hXs⟩
   ·rw[List.mem_singleton.1 hx];exact⟨_,_,_,rfl⟩
  ·rw[show([X,Value.slice (some ⟨b,p,none⟩) m c].toArray)= #[X,.slice (some ⟨b,p,none⟩) m c]from rfl,hrun,hr]
   rfl
 have goes:∀(ad:Option Addr) (la lc:Nat),(la=0∨m=0∨ie.size=0∨∃b1 o e1 c1,ad=some ⟨b1,o,none⟩∧b1≠b∧w.shape? b1=some (e1,c1)∧c1≠0)→(Extern.SlicesOverlaps.overlaps fn.params fn.resultTypes #[.slice ad la lc,.slice (some ⟨b,p,none⟩) m c]).run P w= .ok (.bool false) w:=fun ad la lc h=>by
  obtain⟨T,hT⟩:∃T,T=Extern.SlicesOverlaps.overlaps fn.params fn.resultTypes #[.slice ad la lc,.slice (some ⟨b,p,none⟩) m c]:=⟨_,rfl⟩;rw[←hT]
  conv at hT=>
   rhs
   whnf
  rw[hp0]at hT;rw[hT];by_cases hz:la=0∨m=0∨ie.size=0
  ·cases ad with
   |none=>simp[run_underlying h2,A5 k1]
   |some ad=>simp[run_underlying h2,A5 k1,hz]
  ·obtain⟨b1,o,e1,c1,rfl,hne,sa,hc0⟩:∃b1 o e1 c1,ad=some ⟨b1,o,none⟩∧b1≠b∧w.shape? b1=some (e1,c1)∧c1≠0:=by
    rcases h with h|h|h|h
    ·exact absurd (.inl h) hz
    ·exact absurd (.inr (.inl h)) hz
    ·exact absurd (.inr (.inr h)) hz
    ·exact h
   have hbn:(b1 !=b)=true:=by simp[hne]
   have hbe:(b1==b)=false:=by simp[hne]
   have hfz:∀(a:Addr) (w:World),Sem.run P (Sem.frozen a Sem.pure) w= .ok (w.frozen? a) w:=fun _ _=>rfl;have hsh:∀(r:Nat) (w:World),Sem.run P (Sem.shape r Sem.pure) w= .ok (w.shape? r) w:=fun _ _=>rfl
   cases hfa:w.frozen? ⟨b1,o,none⟩<;>cases hfa2:w.frozen? ⟨b1,c1,none⟩<;>
    simp[run_underlying h2,A5 k1,hz,hbn,hbe,frozen,hfz,hsh,hfa,hfa2,fb1,fb2,noView,viewAt,shape,sa,sb,mayBeOne,stringish,hc0,hne]
 cases hX with
 |fsl0 _ ad=>
  exact done _ _ _ rfl (goes _ _ _ (.inl rfl))
 |fsl _ _ b1 o cf n hn hk hF hc hr=>
  refine done _ _ _ rfl ?_;rcases Nat.eq_zero_or_pos n with hz|hn0
  ·exact goes _ _ _ (.inl hz)
  ·have hpos:0<es1.length*q1:=Nat.mul_pos (by omega) hq1
   have h0:=hc 0 hpos;have hne:b1≠b:=fun e=>by
    subst e;have:F b1=0:=g6;omega
   obtain⟨c1,e1,m1,s1,s2⟩:∃c1 e1 m1,w.heap[b1]? =some (.cells c1 e1 m1)∧0<c1.size:=by
    simp only[World.cell?]at h0;split at h0
    ·rename_i c1 e1 m1 hh
     refine⟨c1,e1,m1,hh,?_⟩;rcases Nat.eq_zero_or_pos c1.size with h|h
     ·simp[h,Array.getElem?_eq_none]at h0
     ·exact h
    ·cases h0
   exact goes _ _ _ (.inr (.inr (.inr ⟨b1,o,e1,c1.size,rfl,hne,by simp[World.shape?,s1],by omega⟩)))
def EAt(q:Nat)(σ:St)(p:AV)(cs:List AV)(g:Nat):Prop:=
 p= .fp (cs.drop g)∨∃b j es frz cap,p= .rp b q j g∧σ b=some (.rows q es frz cap)∧j<es.length∧es.getD j []=cs
section
variable{q:Nat}{σ σ':St}{p lv:AV}{es:List (List AV)}{cs:List AV}{g:Nat}{K:AV→Prop}
theorem LAt.elem{ag:Bool}{sz eby:Nat}{zr ez:List Value}{byt:Bool}{ik:IntKind}{j:Int}(h:LAt q σ lv es)(h0:0≤j)(h1:j<es.length)
  (hk:∀p,EAt q σ p (es.getD j.toNat []) 0→K p):Fq (some ⟨ag,sz,zr,.sl q eby ez byt⟩) σ lv (.v (.int ik j)) K:=by
 rcases h with⟨rfl,rfl⟩|rfl|⟨b,cap,rfl,hc,hb⟩
 ·simp at h1;omega
 ·exact⟨rfl,h0,h1,hk _ (.inl (by simp))⟩
 ·refine⟨by simp,h0,h1,hk _ (.inr ⟨b,_,es,false,cap,rfl,hb,?_,?_⟩)⟩
  ·simp only[Nat.zero_div,Nat.zero_add];omega
  ·simp only[Nat.zero_div,Nat.zero_add]
theorem EAt.fld{bb:Bool}{o s:Nat}(h:EAt q σ p cs g)(hs:0<s)(ho:g+o≤cs.length)(hk:∀p',EAt q σ p' cs (g+o)→K p'):aFad (some (o,s,bb)) p K:=by
 simp only[aFad];rcases h with rfl|⟨b,j,es,frz,cap,rfl,h1,h2,h3⟩
 ·exact⟨hs,by simp;omega,hk _ (.inl (by rw[List.drop_drop]))⟩
 ·exact⟨hs,hk _ (.inr ⟨b,j,es,frz,cap,rfl,h1,h2,h3⟩)⟩
theorem EAt.load{sz:Nat}{zr:List Value}{td:TD}(h:EAt q σ p cs g)(hq:g+sz≤q)(hl:q≤cs.length)(hk:K (.agg ((cs.drop g).take sz))):C8 (some ⟨true,sz,zr,td⟩) σ p K:=by
 rcases h with rfl|⟨b,j,es,frz,cap,rfl,h1,h2,rfl⟩
 ·simp only[C8,if_true]
  exact⟨by simp;omega,hk⟩
 ·simp only[C8,h1,if_true]
  exact⟨trivial,h2,hq,hk⟩
theorem EAt.load1{sz:Nat}{zr:List Value}{td:TD}(h:EAt q σ p cs g)(hq:g<q)(hl:q≤cs.length)(hk:K (cs.getD g (.v undef))):C8 (some ⟨false,sz,zr,td⟩) σ p K:=by
 rcases h with rfl|⟨b,j,es,frz,cap,rfl,h1,h2,rfl⟩
 ·simp only[C8,Bool.false_eq_true,if_false]
  refine⟨by simp;omega,?_⟩;simpa[List.getD_eq_getElem?_getD]using hk
 ·simp only[C8,h1,Bool.false_eq_true,if_false]
  exact⟨trivial,h2,hq,hk⟩
theorem EAt.keep(h:EAt q σ p cs g)(hs:∀x o,σ x=some o→σ' x=some o):EAt q σ' p cs g:=by
 rcases h with rfl|⟨b,j,es,frz,cap,rfl,h1,h2,h3⟩
 ·exact .inl rfl
 ·exact .inr ⟨b,j,es,frz,cap,rfl,hs _ _ h1,h2,h3⟩
noncomputable def St.free(σ:St)(lv:AV):St:=fun y=>open Classical in if Own lv y then none else σ y
theorem Oi{x:Nat}(h:Own lv x):St.free σ lv x=none:=by unfold St.free;rw[if_pos h]
theorem I5{x:Nat}(h:¬Own lv x):St.free σ lv x=σ x:=by unfold St.free;rw[if_neg h]
theorem Afx:SV σ (St.free σ lv):=Fc fun x o hx=>.inl (by
 by_cases h:Own lv x
 ·rw[Oi h]at hx;cases hx
 ·rwa[I5 h]at hx)
theorem LAt.vw_free(h:LAt q σ lv es):VW σ (St.free σ lv) lv (.sl q es):=h.vw_same fun x hx=>Oi hx
end
inductive Tr(α:Type) where
 |e
 |l (a:α)
 |n (x y:Tr α)
def Tr.get{α:Type}:Nat→Tr α→Nat→Option α
 |0,t,_=>match t with
  | .l a=>some a
  |_=>none
 |d+1,t,i=>match t with
  | .n x y=>match Nat.beq (i % 2) 0 with
   |true=>x.get d (i/2)
   |false=>y.get d (i/2)
  |_=>none
def Tr.kids{α:Type}:Tr α→Tr α×Tr α
 | .n x y=>(x,y)
 |_=>(.e,.e)
def Tr.set{α:Type}:Nat→Tr α→Nat→α→Tr α
 |0,_,_,a=>.l a
 |d+1,t,i,a=>match t.kids with
  |(x,y)=>match Nat.beq (i % 2) 0 with
   |true=>.n (x.set d (i/2) a) y
   |false=>.n x (y.set d (i/2) a)
theorem Tr.get_kids{α:Type}{d:Nat}{t:Tr α}{i:Nat}:t.get (d+1) i=match Nat.beq (i % 2) 0 with|true=>t.kids.1.get d (i/2)|false=>t.kids.2.get d (i/2):=by
 have he:∀d i,(Tr.e:Tr α).get d i=none:=fun d i=>by cases d<;>rfl
 cases t with
 |n x y=>simp only[Tr.get,Tr.kids]
 |_=>simp only[Tr.get,Tr.kids,he];split<;>rfl
theorem Tr.get_set{α:Type}:∀(d:Nat) (t:Tr α) (i j:Nat) (a:α),i<2^d→j<2^d→(t.set d i a).get d j=if j=i then some a else t.get d j
 |0,t,i,j,a,hi,hj=>by
  have:j=i:=by simp at hi hj;omega
  rw[if_pos this];rfl
 |d+1,t,i,j,a,hi,hj=>by
  have hi2:i/2<2^d:=by rw[Nat.pow_succ]at hi;omega
  have hj2:j/2<2^d:=by rw[Nat.pow_succ]at hj;omega
  have e:∀x:Nat,Nat.beq (x % 2) 0=decide (x % 2=0):=fun x=>by
   cases h:Nat.beq (x % 2) 0 with
   |true=>exact(decide_eq_true (Nat.eq_of_beq_eq_true h)).symm
   |false=>exact(decide_eq_false (Nat.ne_of_beq_eq_false h)).symm
  rw[Tr.get_kids (t:=t)];simp only[Tr.set];generalize hk:t.kids=p;obtain⟨x,y⟩:=p;simp only[e];by_cases h1:i % 2=0<;>by_cases h2:j % 2=0
  ·rw[decide_eq_true h1,decide_eq_true h2]
   simp only[Tr.get,e,decide_eq_true h2];rw[Tr.get_set d x _ _ a hi2 hj2];have:(j/2=i/2)↔j=i:=by omega
   simp only[this]
  ·rw[decide_eq_true h1,decide_eq_false h2]
   simp only[Tr.get,e,decide_eq_false h2];rw[if_neg (by omega)]
  ·rw[decide_eq_false h1,decide_eq_true h2]
   simp only[Tr.get,e,decide_eq_true h2];rw[if_neg (by omega)]
  ·rw[decide_eq_false h1,decide_eq_false h2]
   simp only[Tr.get,e,decide_eq_false h2];rw[Tr.get_set d y _ _ a hi2 hj2];have:(j/2=i/2)↔j=i:=by omega
   simp only[this]
def Tr.All{α:Type}:Nat→Tr α→(Nat→α→Prop)→Prop
 |0,t,p=>match t with
  | .l a=>p 0 a
  |_=>True
 |d+1,t,p=>match t with
  | .n x y=>x.All d (fun i a=>p (2*i) a)∧y.All d (fun i a=>p (2*i+1) a)
  |_=>True
theorem Tr.all_get{α:Type}:∀{d:Nat} {t:Tr α} {p:Nat→α→Prop} {i:Nat} {a:α},t.All d p→i<2^d→t.get d i=some a→p i a
 |0,t,p,i,a,h,hi,hg=>by
  have:i=0:=by simpa using hi
  subst this;cases t with
  |l b=>simp only[Tr.get,Option.some.injEq]at hg;subst hg;exact h
  |_=>cases hg
 |d+1,t,p,i,a,h,hi,hg=>by
  have hi2:i/2<2^d:=by rw[Nat.pow_succ]at hi;omega
  cases t with
  |n x y=>
   simp only[Tr.get]at hg;split at hg
   ·rename_i hb
    have hb:=Nat.eq_of_beq_eq_true hb;have:=Tr.all_get h.1 hi2 hg;rwa[show 2*(i/2)=i by omega]at this
   ·rename_i hb
    have hb:=Nat.ne_of_beq_eq_false hb;have:=Tr.all_get h.2 hi2 hg;rwa[show 2*(i/2)+1=i by omega]at this
  |_=>cases hg
inductive RS where
 |v (x:Value)
 |opq (i:Nat)
 |ptr (i o:Nat)
 |rp (i k j f:Nat)
 |row (i n:Nat)
 |part (i q l n:Nat)
 |mt (i:Nat) (p c:Nat→Nat)
 |sl (k:Nat) (es:List (List RS))
 |fsl (k:Nat) (es:List (List RS))
 |fp (cs:List RS)
 |agg (cs:List RS)
 |tup (cs:List RS)
 |fn (f:Nat) (fi ca:List RS)
 |yld (l:Nat)
 |ifc (t:TypeId) (x:RS)
 |mp (i:Nat)
structure Cx where
 r:Nat→Nat
 k:Nat→Nat
 a:Nat→AV
mutual
def RS.vv(c:Cx):RS→Value
 | .v x=>x
 | .ptr i o=>.pointer (some ⟨c.r i,o,none⟩)
 | .row i n=>.slice (some ⟨c.r i,0,none⟩) n (c.k i)
 | .part i q l n=>.slice (some ⟨c.r i,l*q,none⟩) n (c.k i-l)
 | .mt i p q=>.slice (some ⟨c.r i,p (c.k i),none⟩) 0 (q (c.k i))
 | .fn f fi ca=>.func (.func f) (RS.vvs c fi).toArray (RS.vvs c ca).toArray
 | .yld l=>.func (.yield (c.r l)) #[] #[]
 | .ifc t x=>.iface t (x.vv c)
 | .mp i=>.map (some (c.r i))
 |_=>undef
def RS.vvs(c:Cx):List RS→List Value
 | []=>[]
 |x::l=>x.vv c::RS.vvs c l
end
mutual
def RS.iv(c:Cx):RS→AV
 | .opq i=>c.a i
 | .rp i k j f=>.rp (c.r i) k j f
 | .sl k es=>.sl k (RS.ivss c es)
 | .fsl k es=>.fsl k (RS.ivss c es)
 | .fp cs=>.fp (RS.ivs c cs)
 | .agg cs=>.agg (RS.ivs c cs)
 | .tup cs=>.tup (RS.ivs c cs)
 |x=>.v (x.vv c)
def RS.ivs(c:Cx):List RS→List AV
 | []=>[]
 |x::l=>x.iv c::RS.ivs c l
def RS.ivss(c:Cx):List (List RS)→List (List AV)
 | []=>[]
 |x::l=>RS.ivs c x::RS.ivss c l
end
theorem Di(c:Cx):∀l:List RS,RS.ivs c l=l.map (RS.iv c)
 | []=>rfl
 |x::l=>by simp only[RS.ivs,Di c l,List.map_cons]
theorem Cq(c:Cx):∀l:List (List RS),RS.ivss c l=l.map (RS.ivs c)
 | []=>rfl
 |x::l=>by simp only[RS.ivss,Cq c l,List.map_cons]
theorem Yh(c:Cx):∀l:List RS,RS.vvs c l=l.map (RS.vv c)
 | []=>rfl
 |x::l=>by simp only[RS.vvs,Yh c l,List.map_cons]
def RS.isV:RS→Bool
 | .opq _| .rp .. | .sl .. | .fsl .. | .fp _| .agg _| .tup _=>false
 |_=>true
theorem Ij{c:Cx}{x:RS}(h:x.isV=true):x.iv c= .v (x.vv c):=by cases x<;>first|(cases h;done)|simp only[RS.iv]
mutual
def RS.wf(n:Nat):RS→Prop
 | .v _=>True
 | .opq _=>True
 | .ptr i _=>i<n
 | .rp i _ _ _=>i<n
 | .row i _=>i<n
 | .part i _ _ _=>i<n
 | .mt i _ _=>i<n
 | .sl _ es=>RS.wfss n es
 | .fsl _ es=>RS.wfss n es
 | .fp cs=>RS.wfs n cs
 | .agg cs=>RS.wfs n cs
 | .tup cs=>RS.wfs n cs
 | .fn _ fi ca=>RS.wfs n fi∧RS.wfs n ca
 | .yld l=>l<n
 | .ifc _ x=>x.wf n
 | .mp i=>i<n
def RS.wfs(n:Nat):List RS→Prop
 | []=>True
 |x::l=>x.wf n∧RS.wfs n l
def RS.wfss(n:Nat):List (List RS)→Prop
 | []=>True
 |x::l=>RS.wfs n x∧RS.wfss n l
end
theorem Hg{n:Nat}:∀{l:List RS},RS.wfs n l↔∀x∈l,x.wf n
 | []=>by simp[RS.wfs]
 |x::l=>by simp[RS.wfs,Hg (l:=l)]
theorem Dc{n:Nat}:∀{l:List (List RS)},RS.wfss n l↔∀x∈l,RS.wfs n x
 | []=>by simp[RS.wfss]
 |x::l=>by simp[RS.wfss,Dc (l:=l)]
structure Fp(n:Nat)(c c':Cx):Prop where
 r:∀i,i<n→c'.r i=c.r i
 k:∀i,i<n→c'.k i=c.k i
 a:c'.a=c.a
theorem Fp.refl(n:Nat)(c:Cx):Fp n c c:=⟨fun _ _=>rfl,fun _ _=>rfl,rfl⟩
theorem Fp.trans{n m:Nat}{c c' c'':Cx}(h:Fp n c c')(h':Fp m c' c'')(hn:n≤m):Fp n c c'':=
 ⟨fun i hi=>(h'.r i (by omega)).trans (h.r i hi),fun i hi=>(h'.k i (by omega)).trans (h.k i hi),h'.a.trans h.a⟩
section
variable{n:Nat}{c c':Cx}
mutual
theorem Eg(h:Fp n c c'):∀(x:RS),x.wf n→x.vv c'=x.vv c
 | .v _,_=>by simp only[RS.vv]
 | .opq _,_=>by simp only[RS.vv]
 | .ptr i _,hw=>by simp only[RS.wf]at hw;simp only[RS.vv,h.r i hw]
 | .rp i _ _ _,_=>by simp only[RS.vv]
 | .row i _,hw=>by simp only[RS.wf]at hw;simp only[RS.vv,h.r i hw,h.k i hw]
 | .part i _ _ _,hw=>by simp only[RS.wf]at hw;simp only[RS.vv,h.r i hw,h.k i hw]
 | .mt i _ _,hw=>by simp only[RS.wf]at hw;simp only[RS.vv,h.r i hw,h.k i hw]
 | .sl _ _,_=>by simp only[RS.vv]
 | .fsl _ _,_=>by simp only[RS.vv]
 | .fp _,_=>by simp only[RS.vv]
 | .agg _,_=>by simp only[RS.vv]
 | .tup _,_=>by simp only[RS.vv]
 | .fn _ fi ca,hw=>by simp only[RS.wf]at hw;simp only[RS.vv,Q7 h fi hw.1,Q7 h ca hw.2]
 | .yld l,hw=>by simp only[RS.wf]at hw;simp only[RS.vv,h.r l hw]
 | .ifc _ x,hw=>by simp only[RS.wf]at hw;simp only[RS.vv,Eg h x hw]
 | .mp i,hw=>by simp only[RS.wf]at hw;simp only[RS.vv,h.r i hw]
theorem Q7(h:Fp n c c'):∀(l:List RS),RS.wfs n l→RS.vvs c' l=RS.vvs c l
 | [],_=>by simp only[RS.vvs]
 |x::l,hw=>by simp only[RS.wfs]at hw;simp only[RS.vvs,Eg h x hw.1,Q7 h l hw.2]
end
mutual
theorem Ln(h:Fp n c c'):∀(x:RS),x.wf n→x.iv c'=x.iv c
 | .opq _,_=>by simp only[RS.iv,h.a]
 | .rp i _ _ _,hw=>by simp only[RS.wf]at hw;simp only[RS.iv,h.r i hw]
 | .sl _ es,hw=>by simp only[RS.wf]at hw;simp only[RS.iv,Ik h es hw]
 | .fsl _ es,hw=>by simp only[RS.wf]at hw;simp only[RS.iv,Ik h es hw]
 | .fp cs,hw=>by simp only[RS.wf]at hw;simp only[RS.iv,Ft h cs hw]
 | .agg cs,hw=>by simp only[RS.wf]at hw;simp only[RS.iv,Ft h cs hw]
 | .tup cs,hw=>by simp only[RS.wf]at hw;simp only[RS.iv,Ft h cs hw]
 | .v x,hw=>by rw[Ij rfl,Ij rfl,Eg h _ hw]
 | .ptr i o,hw=>by rw[Ij rfl,Ij rfl,Eg h _ hw]
 | .row i o,hw=>by rw[Ij rfl,Ij rfl,Eg h _ hw]
 | .part i o _ _,hw=>by rw[Ij rfl,Ij rfl,Eg h _ hw]
 | .mt i o _,hw=>by rw[Ij rfl,Ij rfl,Eg h _ hw]
 | .fn i o _,hw=>by rw[Ij rfl,Ij rfl,Eg h _ hw]
 | .yld i,hw=>by rw[Ij rfl,Ij rfl,Eg h _ hw]
 | .ifc i o,hw=>by rw[Ij rfl,Ij rfl,Eg h _ hw]
 | .mp i,hw=>by rw[Ij rfl,Ij rfl,Eg h _ hw]
theorem Ft(h:Fp n c c'):∀(l:List RS),RS.wfs n l→RS.ivs c' l=RS.ivs c l
 | [],_=>by simp only[RS.ivs]
 |x::l,hw=>by simp only[RS.wfs]at hw;simp only[RS.ivs,Ln h x hw.1,Ft h l hw.2]
theorem Ik(h:Fp n c c'):∀(l:List (List RS)),RS.wfss n l→RS.ivss c' l=RS.ivss c l
 | [],_=>by simp only[RS.ivss]
 |x::l,hw=>by simp only[RS.wfss]at hw;simp only[RS.ivss,Ft h x hw.1,Ik h l hw.2]
end
end
mutual
theorem Ja{n m:Nat}(h:n≤m):∀(x:RS),x.wf n→x.wf m
 | .v _,_=>by simp only[RS.wf]
 | .opq _,_=>by simp only[RS.wf]
 | .ptr i _,hw=>by simp only[RS.wf]at hw⊢;omega
 | .rp i _ _ _,hw=>by simp only[RS.wf]at hw⊢;omega
 | .row i _,hw=>by simp only[RS.wf]at hw⊢;omega
 | .part i _ _ _,hw=>by simp only[RS.wf]at hw⊢;omega
 | .mt i _ _,hw=>by simp only[RS.wf]at hw⊢;omega
 | .sl _ es,hw=>by simp only[RS.wf]at hw⊢;exact Mu h es hw
 | .fsl _ es,hw=>by simp only[RS.wf]at hw⊢;exact Mu h es hw
 | .fp cs,hw=>by simp only[RS.wf]at hw⊢;exact Fe h cs hw
 | .agg cs,hw=>by simp only[RS.wf]at hw⊢;exact Fe h cs hw
 | .tup cs,hw=>by simp only[RS.wf]at hw⊢;exact Fe h cs hw
 | .fn _ fi ca,hw=>by simp only[RS.wf]at hw⊢;exact⟨Fe h fi hw.1,Fe h ca hw.2⟩
 | .yld l,hw=>by simp only[RS.wf]at hw⊢;omega
 | .ifc _ x,hw=>by simp only[RS.wf]at hw⊢;exact Ja h x hw
 | .mp i,hw=>by simp only[RS.wf]at hw⊢;omega
theorem Fe{n m:Nat}(h:n≤m):∀(l:List RS),RS.wfs n l→RS.wfs m l
 | [],_=>by simp only[RS.wfs]
 |x::l,hw=>by simp only[RS.wfs]at hw⊢;exact⟨Ja h x hw.1,Fe h l hw.2⟩
theorem Mu{n m:Nat}(h:n≤m):∀(l:List (List RS)),RS.wfss n l→RS.wfss m l
 | [],_=>by simp only[RS.wfss]
 |x::l,hw=>by simp only[RS.wfss]at hw⊢;exact⟨Fe h x hw.1,Mu h l hw.2⟩
end
def gd{α:Type}:Bool→Option α→Option α
 |true,x=>x
 |false,_=>none
theorem Ak{α:Type}{b:Bool}{x:Option α}{y:α}:gd b x=some y↔b=true∧x=some y:=by cases b<;>simp[gd]
theorem Bz{a b:Nat}:Nat.ble a b=true↔a≤b:=⟨Nat.le_of_ble_eq_true,Nat.ble_eq_true_of_le⟩
theorem A1{a b:Nat}:Nat.beq a b=true↔a=b:=⟨Nat.eq_of_beq_eq_true,fun h=>by subst h;exact Nat.beq_refl a⟩
theorem Be{a b:Nat}:Nat.blt a b=true↔a<b:=⟨Nat.le_of_ble_eq_true,Nat.ble_eq_true_of_le⟩
abbrev Pls:=List (Nat×List PS)
inductive SO where
 |gone
 |cells (cs:List RS)
 |rows (k:Nat) (es:List (List RS)) (frz:Bool)
 |map (kv:List (Value×RS))
 |loop (fr:Tr RS) (ps:List Nat) (assign body:Code) (st:LoopState) (pend:Option Code) (pls:Pls)
structure Sto where
 n:Nat
 t:Tr SO
def Sto.get(h:Sto)(i:Nat):SO:=match h.t.get 16 i with
 |some o=>o
 |none=>.gone
def Sto.put(h:Sto)(i:Nat)(o:SO):Sto:=⟨h.n,h.t.set 16 i o⟩
def Sto.new(h:Sto)(o:SO):Option (Nat×Sto):=gd (Nat.blt h.n 65536) (some (h.n,⟨h.n+1,h.t.set 16 h.n o⟩))
def ifr(c:Cx)(fr:Tr RS):Fr:=fun t=>if t<1024 then match fr.get 10 t with
 |some v=>v.iv c
 |none=>.v undef else .v undef
def io(c:Cx)(i:Nat):SO→Option Cj
 | .gone=>none
 | .cells cs=>some (.cells (RS.ivs c cs))
 | .rows k es frz=>some (.rows k (RS.ivss c es) frz (c.k i))
 | .map kv=>some (.map (kv.map fun p=>(p.1,p.2.iv c)))
 | .loop fr ps a b st pend _=>some (.loop (ifr c fr) (c.k i) ps a b st pend)
def wfr(n:Nat)(fr:Tr RS):Prop:=∀t v,t<1024→fr.get 10 t=some v→v.wf n
def SO.wf(n:Nat):SO→Prop
 | .gone=>True
 | .cells cs=>RS.wfs n cs
 | .rows _ es _=>RS.wfss n es
 | .map kv=>∀p∈kv,p.2.wf n
 | .loop fr _ _ _ _ _ _=>wfr n fr
def SO.len:SO→Nat
 | .rows _ es _=>es.length
 |_=>0
structure WfS(h:Sto):Prop where
 lt:h.n≤65536
 ob:∀i,i<h.n→(h.get i).wf h.n
structure Mt(σ0:St)(c:Cx)(h:Sto)(σ:St):Prop where
 a:∀i,(c.a i).one=true∧(c.a i).cells=[c.a i]
 wf:WfS h
 base:∀y o,σ0 y=some o→σ y=some o
 ob:∀i o,i<h.n→io c i (h.get i)=some o→σ (c.r i)=some o
 sep:∀i y o,i<h.n→h.get i≠.gone→σ0 y=some o→y≠c.r i
 inj:∀i j,i<h.n→j<h.n→h.get i≠.gone→h.get j≠.gone→c.r i=c.r j→i=j
 cap:∀i,i<h.n→(h.get i).len≤c.k i
section
variable{σ0 σ:St}{c c':Cx}{h h':Sto}{n:Nat}
theorem Sto.get_put{h:Sto}{i j:Nat}{o:SO}(hi:i<65536)(hj:j<65536):(h.put i o).get j=if j=i then o else h.get j:=by
 unfold Sto.get Sto.put;simp only;rw[Tr.get_set 16 _ _ _ _ (by simpa using hi) (by simpa using hj)];by_cases e:j=i
 ·rw[if_pos e,if_pos e]
 ·rw[if_neg e,if_neg e]
theorem An9{i:Nat}{o:SO}(h:o≠.gone):∃x,io c i o=some x:=by
 cases o<;>first|exact absurd rfl h|exact⟨_,rfl⟩
theorem Ek(ha:Fp n c c'){fr:Tr RS}(hw:wfr n fr):ifr c' fr=ifr c fr:=by
 funext t;unfold ifr;split
 ·rename_i ht
  split
  ·rename_i v hv;exact Ln ha v (hw t v ht hv)
  ·rfl
 ·rfl
theorem Ajq(ha:Fp n c c'){i:Nat}(hi:i<n){o:SO}(hw:o.wf n):io c' i o=io c i o:=by
 cases o with
 |gone=>rfl
 |cells cs=>simp only[io,Ft ha cs hw]
 |rows k es frz=>simp only[io,Ik ha es hw,ha.k i hi]
 |map kv=>
  simp only[io]
  congr 2
  refine List.map_congr_left fun p hp=>?_;rw[Ln ha p.2 (hw p hp)]
 |loop fr ps a b st pend pls=>simp only[io,Ek ha hw,ha.k i hi]
theorem Aft{n m:Nat}(h:n≤m){o:SO}(hw:o.wf n):o.wf m:=by
 cases o with
 |gone=>trivial
 |cells cs=>exact Fe h cs hw
 |rows k es frz=>exact Mu h es hw
 |map kv=>exact fun p hp=>Ja h p.2 (hw p hp)
 |loop fr ps a b st pend pls=>exact fun t v ht hv=>Ja h v (hw t v ht hv)
theorem Gj{n m:Nat}(h:n≤m){fr:Tr RS}(hw:wfr n fr):wfr m fr:=fun t v ht hv=>Ja h v (hw t v ht hv)
theorem Mt.put(hM:Mt σ0 c h σ){i:Nat}{o:SO}{x:Cj}(hi:i<h.n)(hne:h.get i≠.gone)(ho:io c i o=some x)(hw:o.wf h.n)(hc:o.len≤c.k i):Mt σ0 c (h.put i o) (σ.set (c.r i) x):=by
 have hlt:=hM.wf.lt;have hg:∀j,j<h.n→(h.put i o).get j=if j=i then o else h.get j:=fun j hj=>Sto.get_put (by omega) (by omega)
 have hgone:o≠.gone:=by rintro rfl;cases ho
 have hal:∀j,j<h.n→(h.put i o).get j≠.gone→h.get j≠.gone:=fun j hj hh=>by
  rw[hg j hj]at hh;split at hh
  ·rename_i e;subst e;exact hne
  ·exact hh
 refine⟨hM.a,⟨hlt,fun j hj=>?_⟩,fun y o hy=>?_,fun j x' hj hx=>?_,fun j y o' hj hn hy=>hM.sep j y o' hj (hal j hj hn) hy,fun j k hj hk h1 h2 e=>hM.inj j k hj hk (hal j hj h1) (hal k hk h2) e,fun j hj=>?_⟩
 ·rw[hg j hj]
  split
  ·exact hw
  ·exact hM.wf.ob j hj
 ·have:=hM.sep i y o hi hne hy
  simp only[St.set,if_neg this];exact hM.base y o hy
 ·rw[hg j hj]at hx
  split at hx
  ·rename_i e;subst e
   rw[ho]at hx;injection hx with hx;subst hx;simp[St.set]
  ·rename_i e
   have hjg:h.get j≠.gone:=by intro e2;rw[e2]at hx;cases hx
   have:c.r j≠c.r i:=fun e2=>e (hM.inj j i hj hi hjg hne e2);simp only[St.set,if_neg this];exact hM.ob j x' hj hx
 ·rw[hg j hj]
  split
  ·rename_i e;subst e;exact hc
  ·exact hM.cap j hj
theorem Mt.del(hM:Mt σ0 c h σ){i:Nat}(hi:i<h.n)(hne:h.get i≠.gone):Mt σ0 c (h.put i .gone) (σ.del (c.r i)):=by
 have hlt:=hM.wf.lt;have hg:∀j,j<h.n→(h.put i .gone).get j=if j=i then .gone else h.get j:=fun j hj=>Sto.get_put (by omega) (by omega)
 have hal:∀j,j<h.n→(h.put i .gone).get j≠.gone→j≠i∧h.get j≠.gone:=fun j hj hh=>by
  rw[hg j hj]at hh;split at hh
  ·exact absurd rfl hh
  ·rename_i e;exact⟨e,hh⟩
 refine⟨hM.a,⟨hlt,fun j hj=>?_⟩,fun y o hy=>?_,fun j x' hj hx=>?_,fun j y o' hj hn hy=>hM.sep j y o' hj (hal j hj hn).2 hy,fun j k hj hk h1 h2 e=>hM.inj j k hj hk (hal j hj h1).2 (hal k hk h2).2 e,fun j hj=>?_⟩
 ·rw[hg j hj]
  split
  ·trivial
  ·exact hM.wf.ob j hj
 ·have:=hM.sep i y o hi hne hy
  simp only[St.del,if_neg this];exact hM.base y o hy
 ·rw[hg j hj]at hx
  split at hx
  ·cases hx
  ·rename_i e
   have hjg:h.get j≠.gone:=by intro e2;rw[e2]at hx;cases hx
   have:c.r j≠c.r i:=fun e2=>e (hM.inj j i hj hi hjg hne e2);simp only[St.del,if_neg this];exact hM.ob j x' hj hx
 ·rw[hg j hj]
  split
  ·exact Nat.zero_le _
  ·exact hM.cap j hj
def Cx.more(c:Cx)(n b k:Nat):Cx:=⟨fun i=>if i=n then b else c.r i,fun i=>if i=n then k else c.k i,c.a⟩
theorem Im(c:Cx)(n b k:Nat):Fp n c (c.more n b k):=
 ⟨fun i hi=>by simp only[Cx.more];rw[if_neg (by omega)],fun i hi=>by simp only[Cx.more];rw[if_neg (by omega)],rfl⟩
theorem Mt.new(hM:Mt σ0 c h σ){o:SO}{x:Cj}{b k i:Nat}(hb:σ b=none)(hn:h.new o=some (i,h'))(hx:io (c.more h.n b k) h.n o=some x)(hw:o.wf h.n)(hc:o.len≤k):
  i=h.n∧h'.n=h.n+1∧Mt σ0 (c.more h.n b k) h' (σ.set b x):=by
 unfold Sto.new at hn;rw[Ak,Be]at hn;obtain⟨hlt,hn⟩:=hn;injection hn with hn;injection hn with h1 h2;subst h1;subst h2;have hag:=Im c h.n b k;have hr:(c.more h.n b k).r h.n=b:=by simp[Cx.more]
 have hk:(c.more h.n b k).k h.n=k:=by simp[Cx.more]
 have hg:∀j,j<h.n+1→(Sto.mk (h.n+1) (h.t.set 16 h.n o)).get j=if j=h.n then o else h.get j:=fun j hj=>by
  have:=Sto.get_put (h:=h) (o:=o) hlt (show j<65536 by omega);exact this
 have hwo:o.wf (h.n+1):=Aft (by omega) hw;have hfresh:∀j,j<h.n→h.get j≠.gone→c.r j≠b:=fun j hj hne e=>by
  obtain⟨y,hy⟩:=An9 (c:=c) (i:=j) hne;have:=hM.ob j y hj hy;rw[e,hb]at this;cases this
 refine⟨rfl,rfl,⟨hM.a,⟨by show h.n+1≤65536;omega,fun j hj=>?_⟩,fun y o' hy=>?_,fun j x' hj hx'=>?_,fun j y o' hj hne hy=>?_,fun j l hj hl h1 h2 e=>?_,fun j hj=>?_⟩⟩
 ·have hj':j<h.n+1:=hj
  rw[hg j hj'];split
  ·exact hwo
  ·exact Aft (show h.n≤h.n+1 by omega) (hM.wf.ob j (by omega))
 ·have h1:=hM.base y o' hy
  have:y≠b:=fun e=>by subst e;rw[hb]at h1;cases h1
  simp only[St.set,if_neg this];exact h1
 ·have hj':j<h.n+1:=hj
  rw[hg j hj']at hx';split at hx'
  ·rename_i e;subst e
   rw[hx]at hx';injection hx' with hx';subst hx';rw[hr];simp[St.set]
  ·rename_i e
   have hjn:j<h.n:=by omega
   rw[Ajq hag hjn (hM.wf.ob j hjn)]at hx';have hne:h.get j≠.gone:=by intro e2;rw[e2]at hx';cases hx'
   rw[hag.r j hjn];simp only[St.set,if_neg (hfresh j hjn hne)];exact hM.ob j x' hjn hx'
 ·have hj':j<h.n+1:=hj
  rw[hg j hj']at hne;split at hne
  ·rename_i e;subst e
   rw[hr];have h1:=hM.base y o' hy;intro e;subst e;rw[hb]at h1;cases h1
  ·have hjn:j<h.n:=by omega
   rw[hag.r j hjn];exact hM.sep j y o' hjn hne hy
 ·have hj':j<h.n+1:=hj
  have hl':l<h.n+1:=hl;rw[hg j hj']at h1;rw[hg l hl']at h2;by_cases ej:j=h.n<;>by_cases el:l=h.n
  ·omega
  ·rw[if_neg el]at h2
   rw[ej,hr,hag.r l (by omega)]at e;exact absurd e.symm (hfresh l (by omega) h2)
  ·rw[if_neg ej]at h1
   rw[el,hr,hag.r j (by omega)]at e;exact absurd e (hfresh j (by omega) h1)
  ·rw[if_neg ej]at h1
   rw[if_neg el]at h2;rw[hag.r j (by omega),hag.r l (by omega)]at e;exact hM.inj j l (by omega) (by omega) h1 h2 e
 ·have hj':j<h.n+1:=hj
  rw[hg j hj'];split
  ·rename_i e;subst e;rw[hk];exact hc
  ·rename_i e
   rw[hag.k j (by omega)];exact hM.cap j (by omega)
structure K0(h h':Sto):Prop where
 lp:∀i fr ps a b st pend pls,i<h.n→h.get i= .loop fr ps a b st pend pls→h'.get i= .gone∨∃st' pend',h'.get i= .loop fr ps a b st' pend' pls
 gn:∀i,i<h.n→h.get i= .gone→h'.get i= .gone
theorem K0.refl(h:Sto):K0 h h:=⟨fun _ _ _ _ _ st pend _ _ he=>.inr ⟨st,pend,he⟩,fun _ _ he=>he⟩
theorem K0.trans{h1 h2 h3:Sto}(h:K0 h1 h2)(h':K0 h2 h3)(hn:h1.n≤h2.n):K0 h1 h3:=by
 refine⟨fun i fr ps a b st pend pls hi he=>?_,fun i hi he=>h'.gn i (by omega) (h.gn i hi he)⟩;rcases h.lp i fr ps a b st pend pls hi he with h1|⟨st',pend',h1⟩
 ·exact .inl (h'.gn i (by omega) h1)
 ·exact h'.lp i fr ps a b st' pend' pls (by omega) h1
theorem K0.put{h:Sto}{i:Nat}{o:SO}(hlt:h.n≤65536)(hi:i<h.n)(hl:∀fr ps a b st pend pls,h.get i= .loop fr ps a b st pend pls→o= .gone∨∃st' pend',o= .loop fr ps a b st' pend' pls)(hg:h.get i= .gone→o= .gone):K0 h (h.put i o):=by
 have hgp:∀j,j<h.n→(h.put i o).get j=if j=i then o else h.get j:=fun j hj=>Sto.get_put (by omega) (by omega)
 refine⟨fun j fr ps a b st pend pls hj he=>?_,fun j hj he=>?_⟩
 ·rw[hgp j hj]
  split
  ·rename_i e;subst e;exact hl _ _ _ _ _ _ _ he
  ·exact .inr ⟨st,pend,he⟩
 ·rw[hgp j hj]
  split
  ·rename_i e;subst e;exact hg he
  ·exact he
theorem K0.new{h h':Sto}{o:SO}{i:Nat}(hn:h.new o=some (i,h')):K0 h h':=by
 unfold Sto.new at hn;rw[Ak,Be]at hn;obtain⟨hlt,hn⟩:=hn;injection hn with hn;injection hn with h1 h2;subst h1;subst h2;have hg:∀j,j<h.n→(Sto.mk (h.n+1) (h.t.set 16 h.n o)).get j=h.get j:=fun j hj=>by
  have:=Sto.get_put (h:=h) (o:=o) hlt (show j<65536 by omega);rw[if_neg (by omega)]at this;exact this
 exact⟨fun j fr ps a b st pend pls hj he=>.inr ⟨st,pend,by rw[hg j hj];exact he⟩,fun j hj he=>by rw[hg j hj];exact he⟩
end
def T5:Value→RS
 | .agg cs=>.agg (cs.toList.map .v)
 | .tuple cs=>.tup (cs.toList.map .v)
 |x=>.v x
def eEv(fr:Tr RS):Operand→Option RS
 | .tmp t=>gd (Nat.blt t 1024) (fr.get 10 t)
 | .const v=>some (T5 v)
 | .func f=>some (.fn f [] [])
 | .global _=>none
def S6(fr:Tr RS):List Operand→Option (List RS)
 | []=>some []
 |x::l=>match eEv fr x with
  |some v=>match S6 fr l with
   |some vs=>some (v::vs)
   |none=>none
  |none=>none
def RS.cells:RS→List RS
 | .agg cs=>cs
 | .v (.agg q)=>q.toList.map .v
 |x=>[x]
def RS.one:RS→Bool
 | .v x=>x.oneCell'
 | .agg _=>false
 | .tup _=>false
 |_=>true
section
variable{P:Program}{σ0 σ:St}{c c':Cx}{h h':Sto}{n:Nat}{fr:Tr RS}{v:RS}{K:AV→Prop}{k:AV→St→Prop}
theorem Tp(c:Cx)(l:List Value):RS.ivs c (l.map .v)=l.map AV.v:=by
 rw[Di,List.map_map];refine List.map_congr_left fun x _=>?_;simp only[Function.comp,RS.iv,RS.vv]
theorem Us(n:Nat)(l:List Value):RS.wfs n (l.map .v):=Hg.2 fun x hx=>by
 obtain⟨y,_,rfl⟩:=List.mem_map.1 hx;simp only[RS.wf]
theorem Ahb(c:Cx)(x:Value):(T5 x).iv c=ofConst x:=by
 cases x<;>simp only[T5,ofConst,RS.iv,RS.vv,Tp]
theorem Ahc(n:Nat)(x:Value):(T5 x).wf n:=by
 cases x<;>simp only[T5,RS.wf,Us]
theorem Bh{x:Operand}(he:eEv fr x=some v):(ifr c fr).ev x=v.iv c:=by
 cases x with
 |tmp t=>
  simp only[eEv,Ak,Be]at he;simp only[Fr.ev,ifr,if_pos he.1,he.2]
 |const y=>simp only[eEv,Option.some.injEq]at he;subst he;rw[Ahb];rfl
 |global g=>cases he
 |func f=>simp only[eEv,Option.some.injEq]at he;subst he;simp only[Fr.ev,RS.iv,RS.vv,RS.vvs]
theorem Cl{x:Operand}(hf:wfr n fr)(he:eEv fr x=some v):v.wf n:=by
 cases x with
 |tmp t=>
  simp only[eEv,Ak,Be]at he;exact hf t v he.1 he.2
 |const y=>simp only[eEv,Option.some.injEq]at he;subst he;exact Ahc n y
 |global g=>cases he
 |func f=>simp only[eEv,Option.some.injEq]at he;subst he;simp only[RS.wf,RS.wfs,and_self]
theorem Rw:∀{l:List Operand} {vs:List RS},S6 fr l=some vs→l.map (ifr c fr).ev=vs.map (RS.iv c)
 | [],vs,he=>by simp only[S6,Option.some.injEq]at he;subst he;rfl
 |x::l,vs,he=>by
  simp only[S6]at he;split at he
  ·rename_i v hv
   split at he
   ·rename_i vs' hvs
    injection he with he;subst he;simp only[List.map_cons,Bh hv,Rw hvs]
   ·cases he
  ·cases he
theorem Rx(hf:wfr n fr):∀{l:List Operand} {vs:List RS},S6 fr l=some vs→RS.wfs n vs
 | [],vs,he=>by simp only[S6,Option.some.injEq]at he;subst he;simp only[RS.wfs]
 |x::l,vs,he=>by
  simp only[S6]at he;split at he
  ·rename_i v hv
   split at he
   ·rename_i vs' hvs
    injection he with he;subst he;simp only[RS.wfs];exact⟨Cl hf hv,Rx hf hvs⟩
   ·cases he
  ·cases he
theorem Ld(ha:∀i,(c.a i).one=true∧(c.a i).cells=[c.a i])(x:RS):(x.iv c).cells=RS.ivs c x.cells:=by
 cases x with
 |v y=>cases y<;>simp only[RS.iv,RS.vv,AV.cells,RS.cells,RS.ivs,Tp]
 |opq i=>simp only[RS.iv,RS.cells,RS.ivs,(ha i).2]
 |_=>simp only[RS.iv,RS.vv,AV.cells,RS.cells,RS.ivs]
theorem N6{x:RS}(h:x.wf n):RS.wfs n x.cells:=by
 cases x with
 |v y=>cases y<;>simp only[RS.cells,Us,RS.wfs,RS.wf,and_self]
 |_=>simp only[RS.cells,RS.wfs,and_true];exact h
theorem Arv(ha:∀i,(c.a i).one=true∧(c.a i).cells=[c.a i])(x:RS):(x.iv c).one=x.one:=by
 cases x with
 |opq i=>simp only[RS.iv,RS.one,(ha i).1]
 |_=>simp only[RS.iv,RS.vv,AV.one,RS.one,Value.oneCell']
theorem Xo(ha:∀i,(c.a i).one=true∧(c.a i).cells=[c.a i])(l:List RS):(RS.ivs c l).all AV.one=l.all RS.one:=by
 rw[Di,List.all_map]
 congr 1
 funext x;exact Arv ha x
theorem Db(c:Cx)(l:List RS):(RS.ivs c l).length=l.length:=by rw[Di,List.length_map]
theorem Bu(c:Cx)(l:List (List RS)):(RS.ivss c l).length=l.length:=by rw[Cq,List.length_map]
theorem To{l:List RS}{i:Nat}{x:RS}(h:l[i]? =some x):(RS.ivs c l).getD i (.v undef)=x.iv c:=by
 rw[Di,List.getD_eq_getElem?_getD,List.getElem?_map,h];rfl
theorem Mi{l:List (List RS)}{i:Nat}{x:List RS}(h:l[i]? =some x):(RS.ivss c l).getD i []=RS.ivs c x:=by
 rw[Cq,List.getD_eq_getElem?_getD,List.getElem?_map,h];rfl
theorem Z7(l:List RS)(i:Nat):(RS.ivs c l).take i=RS.ivs c (l.take i):=by rw[Di,Di,List.map_take]
theorem Ot(l:List RS)(i:Nat):(RS.ivs c l).drop i=RS.ivs c (l.drop i):=by rw[Di,Di,List.map_drop]
theorem Hz(l:List (List RS))(i:Nat):(RS.ivss c l).take i=RS.ivss c (l.take i):=by rw[Cq,Cq,List.map_take]
theorem Mh(l:List (List RS))(i:Nat):(RS.ivss c l).drop i=RS.ivss c (l.drop i):=by rw[Cq,Cq,List.map_drop]
theorem Oq(l l':List RS):RS.ivs c (l++l')=RS.ivs c l++RS.ivs c l':=by rw[Di,Di,Di,List.map_append]
theorem Lo(l l':List (List RS)):RS.ivss c (l++l')=RS.ivss c l++RS.ivss c l':=by rw[Cq,Cq,Cq,List.map_append]
theorem Z9(l:List (List RS))(i:Nat)(x:List RS):RS.ivss c (l.set i x)=(RS.ivss c l).set i (RS.ivs c x):=by rw[Cq,Cq,List.map_set]
theorem Abl{l:List RS}(i:Nat)(h:RS.wfs n l):RS.wfs n (l.take i):=Hg.2 fun x hx=>Hg.1 h x (List.mem_of_mem_take hx)
theorem Px{l:List RS}(i:Nat)(h:RS.wfs n l):RS.wfs n (l.drop i):=Hg.2 fun x hx=>Hg.1 h x (List.mem_of_mem_drop hx)
theorem Mr{l l':List RS}(h:RS.wfs n l)(h':RS.wfs n l'):RS.wfs n (l++l'):=Hg.2 fun x hx=>(List.mem_append.1 hx).elim (Hg.1 h x) (Hg.1 h' x)
theorem J9{l:List (List RS)}(i:Nat)(h:RS.wfss n l):RS.wfss n (l.take i):=Dc.2 fun x hx=>Dc.1 h x (List.mem_of_mem_take hx)
theorem Ms{l:List (List RS)}(i:Nat)(h:RS.wfss n l):RS.wfss n (l.drop i):=Dc.2 fun x hx=>Dc.1 h x (List.mem_of_mem_drop hx)
theorem J8{l l':List (List RS)}(h:RS.wfss n l)(h':RS.wfss n l'):RS.wfss n (l++l'):=Dc.2 fun x hx=>(List.mem_append.1 hx).elim (Dc.1 h x) (Dc.1 h' x)
theorem Abn{l:List (List RS)}{i:Nat}{x:List RS}(h:RS.wfss n l)(hx:RS.wfs n x):RS.wfss n (l.set i x):=Dc.2 fun y hy=>by
 rcases List.mem_or_eq_of_mem_set hy with hy|rfl
 ·exact Dc.1 h y hy
 ·exact hx
theorem R7{l:List RS}{i:Nat}{x:RS}(h:RS.wfs n l)(hx:l[i]? =some x):x.wf n:=Hg.1 h x (List.mem_of_getElem? hx)
theorem L9{l:List (List RS)}{i:Nat}{x:List RS}(h:RS.wfss n l)(hx:l[i]? =some x):RS.wfs n x:=Dc.1 h x (List.mem_of_getElem? hx)
theorem Nl{α:Type}{l:List α}{i:Nat}{x:α}(h:l[i]? =some x):i<l.length:=(List.getElem?_eq_some_iff.1 h).1
def Lg(ag:Bool)(sz off:Nat)(cs:List RS):Option RS:=match ag with
 |true=>gd (Nat.ble (off+sz) cs.length) (some (.agg ((cs.drop off).take sz)))
 |false=>cs[off]?
theorem Jr{ag:Bool}{sz off:Nat}{cs:List RS}(he:Lg ag sz off cs=some v)(hk:K (v.iv c)):Ky ag off sz (RS.ivs c cs) K:=by
 unfold Ky;cases ag with
 |true=>
  simp only[Lg,Ak,Bz,Option.some.injEq]at he;obtain⟨h1,rfl⟩:=he;rw[if_pos rfl,Db];refine⟨h1,?_⟩;simp only[RS.iv,←Z7,←Ot]at hk;exact hk
 |false=>
  simp only[Lg]at he;rw[if_neg (by simp),Db,To he];exact⟨Nl he,hk⟩
theorem Js{ag:Bool}{sz off:Nat}{cs:List RS}(hw:RS.wfs n cs)(he:Lg ag sz off cs=some v):v.wf n:=by
 cases ag with
 |true=>
  simp only[Lg,Ak,Bz,Option.some.injEq]at he;obtain⟨h1,rfl⟩:=he;simp only[RS.wf];exact Abl _ (Px _ hw)
 |false=>exact R7 hw he
def N9(i:TK)(h:Sto):RS→Option RS
 | .fp cs=>Lg i.ag i.sz 0 cs
 | .ptr b o=>match h.get b with
  | .cells cs=>Lg i.ag i.sz o cs
  |_=>none
 | .rp b q j f=>match h.get b with
  | .rows q' es _=>gd (Nat.beq q' q) (match es[j]? with
   |some e=>gd (match i.ag with|true=>Nat.ble (f+i.sz) q|false=>Nat.blt f q) (Lg i.ag i.sz f e)
   |none=>none)
  |_=>none
 |_=>none
theorem Ais(hM:Mt σ0 c h σ){i:TK}{p:RS}(hp:p.wf h.n)(he:N9 i h p=some v)(hk:K (v.iv c)):C8 (some i) σ (p.iv c) K:=by
 cases p with
 |fp cs=>
  simp only[N9]at he;have:=Jr he hk;simp only[RS.iv,C8];unfold Ky at this;cases hg:i.ag with
  |true=>rw[hg]at this;simpa using this
  |false=>rw[hg]at this;simpa using this
 |ptr b o=>
  simp only[N9]at he;split at he
  ·rename_i cs hb
   simp only[RS.wf]at hp;have h1:io c b (h.get b)=some (.cells (RS.ivs c cs)):=by rw[hb];rfl
   have h2:=hM.ob b _ hp h1;have:=Jr he hk;simp only[RS.iv,RS.vv,C8,h2];unfold Ky at this;exact this
  ·cases he
 |rp b q j f=>
  simp only[N9]at he;split at he
  ·rename_i q' es frz hb
   simp only[RS.wf]at hp;rw[Ak,A1]at he;obtain⟨rfl,he⟩:=he;have h1:io c b (h.get b)=some (.rows q' (RS.ivss c es) frz (c.k b)):=by rw[hb];rfl
   have h2:=hM.ob b _ hp h1;split at he
   ·rename_i e hj
    rw[Ak]at he;have:=Jr he.2 hk;simp only[RS.iv,C8,h2,Bu,Mi hj];refine⟨trivial,Nl hj,?_⟩;unfold Ky at this;cases hg:i.ag with
    |true=>
     rw[hg]at this he;simp only[if_true]at this⊢;exact⟨Bz.1 he.1,this.2⟩
    |false=>
     rw[hg]at this he;simp only[Bool.false_eq_true,if_false]at this⊢;exact⟨Be.1 he.1,this.2⟩
   ·cases he
  ·cases he
 |_=>cases he
theorem Ait(hS:WfS h){i:TK}{p:RS}(hp:p.wf h.n)(he:N9 i h p=some v):v.wf h.n:=by
 cases p with
 |fp cs=>simp only[N9]at he;simp only[RS.wf]at hp;exact Js hp he
 |ptr b o=>
  simp only[N9]at he;simp only[RS.wf]at hp;have:=hS.ob b hp;split at he
  ·rename_i cs hb
   rw[hb]at this;exact Js this he
  ·cases he
 |rp b q j f=>
  simp only[N9]at he;simp only[RS.wf]at hp;have:=hS.ob b hp;split at he
  ·rename_i q' es frz hb
   rw[hb]at this;rw[Ak]at he;have he:=he.2;split at he
   ·rename_i e hj
    rw[Ak]at he;exact Js (L9 this hj) he.2
   ·cases he
  ·cases he
 |_=>cases he
def Mn(cs:List RS)(o:Nat)(xs:List RS):List RS:=cs.take o++xs++cs.drop (o+xs.length)
theorem No(cs:List RS)(o:Nat)(xs:List RS):RS.ivs c (Mn cs o xs)=A0 (RS.ivs c cs) o (RS.ivs c xs):=by
 unfold Mn A0;rw[Oq,Oq,Z7,Ot,Db]
theorem Nv{cs xs:List RS}(o:Nat)(h:RS.wfs n cs)(h':RS.wfs n xs):RS.wfs n (Mn cs o xs):=Mr (Mr (Abl _ h) h') (Px _ h)
def Ab3(i:TK)(h:Sto)(p x:RS):Option Sto:=gd (Nat.beq x.cells.length i.sz&&x.cells.all RS.one) (match p with
 | .ptr b o=>match h.get b with
  | .cells cs=>gd (Nat.ble (o+i.sz) cs.length) (some (h.put b (.cells (Mn cs o x.cells))))
  |_=>none
 | .rp b q j f=>match h.get b with
  | .rows q' es false=>gd (Nat.beq q' q&&Nat.ble (f+i.sz) q) (match es[j]? with
   |some e=>some (h.put b (.rows q (es.set j (Mn e f x.cells)) false))
   |none=>none)
  |_=>none
 |_=>none)
theorem Agm(hM:Mt σ0 c h σ){i:TK}{p x:RS}(hp:p.wf h.n)(hx:x.wf h.n)(he:Ab3 i h p x=some h'){k:St→Prop}(hk:∀σ',h'.n=h.n→K0 h h'→Mt σ0 c h' σ'→k σ'):Gr (some i) σ (p.iv c) (x.iv c) k:=by
 unfold Ab3 at he;rw[Ak,Bool.and_eq_true,A1]at he;obtain⟨⟨h1,h2⟩,he⟩:=he;simp only[Gr,Ld hM.a,Db,Xo hM.a];refine⟨h1,h2,?_⟩;have hxw:=N6 hx;cases p with
 |ptr b o=>
  simp only at he;split at he
  ·rename_i cs hb
   simp only[RS.wf]at hp;rw[Ak,Bz]at he;obtain⟨h3,he⟩:=he;injection he with he;subst he;have h4:io c b (h.get b)=some (.cells (RS.ivs c cs)):=by rw[hb];rfl
   have h5:=hM.ob b _ hp h4;have hw:=hM.wf.ob b hp;rw[hb]at hw;simp only[RS.iv,RS.vv,h5,Db];refine⟨h3,hk _ rfl (.put hM.wf.lt hp (by rw[hb];intro _ _ _ _ _ _ _ e;cases e) (by rw[hb];intro e;cases e)) ?_⟩;refine hM.put hp (by rw[hb];intro e;cases e) ?_ (Nv o hw hxw) (Nat.zero_le _);simp only[io,No]
  ·cases he
 |rp b q j f=>
  simp only at he;split at he
  ·rename_i q' es hb
   simp only[RS.wf]at hp;rw[Ak,Bool.and_eq_true,A1,Bz]at he;obtain⟨⟨rfl,h3⟩,he⟩:=he;split at he
   ·rename_i e hj
    injection he with he;subst he;have h4:io c b (h.get b)=some (.rows q' (RS.ivss c es) false (c.k b)):=by rw[hb];rfl
    have h5:=hM.ob b _ hp h4;have hw:=hM.wf.ob b hp;have hcap:=hM.cap b hp;rw[hb]at hw hcap;simp only[RS.iv,h5,Bu,Mi hj];refine⟨trivial,Nl hj,h3,hk _ rfl (.put hM.wf.lt hp (by rw[hb];intro _ _ _ _ _ _ _ e;cases e) (by rw[hb];intro e;cases e)) ?_⟩;refine hM.put hp (by rw[hb];intro e;cases e) ?_ (Abn hw (Nv f (L9 hw hj) hxw)) (by simpa[SO.len]using hcap);simp only[io,Z9,No]
   ·cases he
  ·cases he
 |_=>cases he
end
section
variable{P:Program}{σ0 σ:St}{c c':Cx}{h h':Sto}{n:Nat}{fr:Tr RS}{v:RS}{K:AV→Prop}{k:AV→St→Prop}
def eNil:RS→Option RS
 | .ptr i o=>some (.ptr i o)
 | .fp cs=>some (.fp cs)
 | .rp i k j f=>some (.rp i k j f)
 | .fn f fi ca=>some (.fn f fi ca)
 | .yld l=>some (.yld l)
 |_=>none
theorem Amw{x:RS}(he:eNil x=some v)(hk:K (v.iv c)):P6 (x.iv c) K:=by
 cases x<;>first|(cases he;done)|(simp only[eNil,Option.some.injEq]at he;subst he;simpa only[RS.iv,RS.vv,P6]using hk)
theorem Amx{x:RS}(hx:x.wf n)(he:eNil x=some v):v.wf n:=by
 cases x<;>first|(cases he;done)|(simp only[eNil,Option.some.injEq]at he;subst he;exact hx)
def Zi(i:TK)(f:Nat)(x:RS):Option RS:=match i.td with
 | .st fs=>match fs[f]? with
  |some (off,sz,_)=>gd (Nat.blt 0 sz) (match x with
   | .ptr b p=>some (.ptr b (p+off))
   | .fp cs=>gd (Nat.ble off cs.length) (some (.fp (cs.drop off)))
   | .rp b q j g=>some (.rp b q j (g+off))
   |_=>none)
  |none=>none
 |_=>none
theorem Aim{i:TK}{f:Nat}{x:RS}(he:Zi i f x=some v)(hk:K (v.iv c)):Iz (some i) f (x.iv c) K:=by
 unfold Zi at he;simp only[Iz];split at he
 ·rename_i fs htd
  simp only[htd];split at he
  ·rename_i off sz bb hf
   simp only[hf];rw[Ak,Be]at he;obtain⟨h1,he⟩:=he;refine⟨h1,?_⟩;cases x with
   |ptr b p=>simp only[Option.some.injEq]at he;subst he;simpa only[RS.iv,RS.vv]using hk
   |fp cs=>
    simp only[Ak,Bz,Option.some.injEq]at he;obtain⟨h2,rfl⟩:=he;simp only[RS.iv,Db,←Ot]at hk⊢;exact⟨h2,hk⟩
   |rp b q j g=>simp only[Option.some.injEq]at he;subst he;simpa only[RS.iv,RS.vv]using hk
   |_=>cases he
  ·cases he
 ·cases he
theorem Ain{i:TK}{f:Nat}{x:RS}(hx:x.wf n)(he:Zi i f x=some v):v.wf n:=by
 unfold Zi at he;split at he
 ·split at he
  ·rw[Ak]at he
   have he:=he.2;cases x with
   |ptr b p=>simp only[Option.some.injEq]at he;subst he;exact hx
   |fp cs=>
    simp only[Ak,Option.some.injEq]at he;obtain⟨h2,rfl⟩:=he;simp only[RS.wf]at hx⊢;exact Px _ hx
   |rp b q j g=>simp only[Option.some.injEq]at he;subst he;exact hx
   |_=>cases he
  ·cases he
 ·cases he
def eFld(i:TK)(f:Nat)(x:RS):Option RS:=match i.td with
 | .st fs=>match fs[f]? with
  |some (off,sz,ag)=>match x with
   | .agg cs=>Lg ag sz off cs
   |_=>none
  |none=>none
 |_=>none
theorem Amn{i:TK}{f:Nat}{x:RS}(he:eFld i f x=some v)(hk:K (v.iv c)):Nx (some i) f (x.iv c) K:=by
 unfold eFld at he;simp only[Nx];split at he
 ·rename_i fs htd
  simp only[htd];split at he
  ·rename_i off sz ag hf
   simp only[hf];cases x with
   |agg cs=>simp only[RS.iv];exact Jr he hk
   |_=>cases he
  ·cases he
 ·cases he
theorem Amo{i:TK}{f:Nat}{x:RS}(hx:x.wf n)(he:eFld i f x=some v):v.wf n:=by
 unfold eFld at he;split at he
 ·split at he
  ·cases x with
   |agg cs=>simp only[RS.wf]at hx;exact Js hx he
   |_=>cases he
  ·cases he
 ·cases he
def eNat:RS→Option Nat
 | .v (.int _ (.ofNat j))=>some j
 |_=>none
theorem Oa{x:RS}{j:Nat}(he:eNat x=some j):∃ik,x= .v (.int ik (j:Int)):=by
 unfold eNat at he;split at he
 ·injection he with he;subst he;exact⟨_,rfl⟩
 ·cases he
def Zk(i:TK)(x ix:RS):Option RS:=match eNat ix with
 |none=>none
 |some j=>match i.td with
  | .arr m esz _=>gd (Nat.blt j m) (match x with
   | .ptr b p=>some (.ptr b (p+j*esz))
   | .fp cs=>gd (Nat.ble (j*esz) cs.length) (some (.fp (cs.drop (j*esz))))
   | .rp b q r f=>some (.rp b q r (f+j*esz))
   |_=>none)
  | .sl esz _ _ _=>match x with
   | .sl q es=>gd (Nat.beq q esz) (match es[j]? with|some e=>some (.fp e)|none=>none)
   | .fsl q es=>gd (Nat.beq q esz) (match es[j]? with|some e=>some (.fp e)|none=>none)
   | .row b n=>gd (Nat.blt j n&&Nat.blt 0 esz) (some (.rp b esz j 0))
   | .part b q l n=>gd (Nat.blt j n&&Nat.blt 0 esz&&Nat.beq q esz) (some (.rp b esz (l+j) 0))
   |_=>none
  |_=>none
theorem Aiq{i:TK}{x ix:RS}(he:Zk i x ix=some v)(hk:K (v.iv c)):Fq (some i) σ (x.iv c) (ix.iv c) K:=by
 unfold Zk at he;split at he
 ·cases he
 ·rename_i j hj
  obtain⟨ik,rfl⟩:=Oa hj;simp only[Fq,RS.iv,RS.vv];split at he
  ·rename_i m esz eag htd
   simp only[htd];rw[Ak,Be]at he;obtain⟨h1,he⟩:=he;cases x with
   |ptr b p=>
    simp only[Option.some.injEq]at he;subst he;simp only[RS.iv,RS.vv,Int.toNat_natCast]at hk⊢;exact⟨by omega,by omega,hk⟩
   |fp cs=>
    simp only[Ak,Bz,Option.some.injEq]at he;obtain⟨h2,rfl⟩:=he;simp only[RS.iv,Db,←Ot,Int.toNat_natCast]at hk⊢;exact⟨by omega,by omega,h2,hk⟩
   |rp b q r f=>
    simp only[Option.some.injEq]at he;subst he;simp only[RS.iv,RS.vv,Int.toNat_natCast]at hk⊢;exact⟨by omega,by omega,hk⟩
   |_=>cases he
  ·rename_i esz eby ez byt htd
   simp only[htd];cases x with
   |sl q es=>
    simp only[Ak,A1]at he;obtain⟨h1,he⟩:=he;split at he
    ·rename_i e hg
     injection he with he;subst he;simp only[RS.iv,Bu,Int.toNat_natCast,Mi hg]at hk⊢;exact⟨h1,by omega,by have:=Nl hg;omega,hk⟩
    ·cases he
   |fsl q es=>
    simp only[Ak,A1]at he;obtain⟨h1,he⟩:=he;split at he
    ·rename_i e hg
     injection he with he;subst he;simp only[RS.iv,Bu,Int.toNat_natCast,Mi hg]at hk⊢;exact⟨h1,by omega,by have:=Nl hg;omega,hk⟩
    ·cases he
   |row b n=>
    simp only[Ak,Bool.and_eq_true,Be,Option.some.injEq]at he;obtain⟨⟨h1,h2⟩,rfl⟩:=he;simp only[RS.iv,RS.vv,Int.toNat_natCast,Nat.zero_div,Nat.zero_add]at hk⊢;exact⟨by simp,by omega,by omega,hk⟩
   |part b q l n=>
    simp only[Ak,Bool.and_eq_true,Be,A1,Option.some.injEq]at he;obtain⟨⟨⟨h1,h2⟩,rfl⟩,rfl⟩:=he;simp only[RS.iv,RS.vv,Int.toNat_natCast,Nat.mul_div_cancel _ h2]at hk⊢;exact⟨by simp,by omega,by omega,hk⟩
   |_=>cases he
  ·cases he
theorem Air{i:TK}{x ix:RS}(hx:x.wf n)(he:Zk i x ix=some v):v.wf n:=by
 unfold Zk at he;split at he
 ·cases he
 ·split at he
  ·rw[Ak]at he
   have he:=he.2;cases x with
   |ptr b p=>simp only[Option.some.injEq]at he;subst he;exact hx
   |fp cs=>
    simp only[Ak,Option.some.injEq]at he;obtain⟨h2,rfl⟩:=he;simp only[RS.wf]at hx⊢;exact Px _ hx
   |rp b q r f=>simp only[Option.some.injEq]at he;subst he;exact hx
   |_=>cases he
  ·cases x with
   |sl q es=>
    simp only[Ak]at he;have he:=he.2;split at he
    ·rename_i e hg
     injection he with he;subst he;simp only[RS.wf]at hx⊢;exact L9 hx hg
    ·cases he
   |fsl q es=>
    simp only[Ak]at he;have he:=he.2;split at he
    ·rename_i e hg
     injection he with he;subst he;simp only[RS.wf]at hx⊢;exact L9 hx hg
    ·cases he
   |row b n=>simp only[Ak,Option.some.injEq]at he;obtain⟨_,rfl⟩:=he;exact hx
   |part b q l n=>simp only[Ak,Option.some.injEq]at he;obtain⟨_,rfl⟩:=he;exact hx
   |_=>cases he
  ·cases he
def eIdx(i:TK)(x ix:RS):Option RS:=match eNat ix with
 |none=>none
 |some j=>match i.td with
  | .arr m esz ag=>match x with
   | .agg cs=>gd (Nat.blt j m) (Lg ag esz (j*esz) cs)
   |_=>none
  | .str=>match x with
   | .v (.string s)=>match s.data.toList[j]? with
    |some b=>some (.v (.int .u8 b.toNat))
    |none=>none
   |_=>none
  |_=>none
theorem Amq{i:TK}{x ix:RS}(he:eIdx i x ix=some v)(hk:K (v.iv c)):Sa (some i) (x.iv c) (ix.iv c) K:=by
 unfold eIdx at he;split at he
 ·cases he
 ·rename_i j hj
  obtain⟨ik,rfl⟩:=Oa hj;simp only[Sa,RS.iv,RS.vv];split at he
  ·rename_i m esz ag htd
   simp only[htd];cases x with
   |agg cs=>
    simp only[Ak,Be]at he;simp only[RS.iv,Int.toNat_natCast];exact⟨by omega,by omega,Jr he.2 hk⟩
   |_=>cases he
  ·rename_i htd
   simp only[htd];split at he
   ·rename_i s
    split at he
    ·rename_i b hb
     injection he with he;subst he;simp only[RS.iv,RS.vv,Int.toNat_natCast,List.getD_eq_getElem?_getD,hb,Option.getD_some]at hk⊢;have:=Nl hb;rw[Array.length_toList]at this;exact⟨by omega,Int.ofNat_lt.2 this,hk⟩
    ·cases he
   ·cases he
  ·cases he
theorem Amr{i:TK}{x ix:RS}(hx:x.wf n)(he:eIdx i x ix=some v):v.wf n:=by
 unfold eIdx at he;split at he
 ·cases he
 ·split at he
  ·cases x with
   |agg cs=>simp only[Ak]at he;simp only[RS.wf]at hx;exact Js hx he.2
   |_=>cases he
  ·split at he
   ·split at he
    ·injection he with he;subst he;simp only[RS.wf]
    ·cases he
   ·cases he
  ·cases he
def eExt(x:RS)(j:Nat):Option RS:=match x with
 | .tup vs=>vs[j]?
 |_=>none
theorem Aml{x:RS}{j:Nat}(he:eExt x j=some v)(hk:K (v.iv c)):Ho (x.iv c) j K:=by
 cases x with
 |tup vs=>
  simp only[eExt]at he;simp only[RS.iv,Ho,Db,To he];exact⟨Nl he,hk⟩
 |_=>cases he
theorem Amm{x:RS}{j:Nat}(hx:x.wf n)(he:eExt x j=some v):v.wf n:=by
 cases x with
 |tup vs=>simp only[RS.wf]at hx;exact R7 hx he
 |_=>cases he
def Zm(c x y:RS):Option RS:=match c with
 | .v (.bool true)=>some x
 | .v (.bool false)=>some y
 |_=>none
theorem Aiy{p x y:RS}(he:Zm p x y=some v)(hk:K (v.iv c)):Jm (p.iv c) (x.iv c) (y.iv c) K:=by
 unfold Zm at he;split at he
 ·injection he with he;subst he;simpa only[RS.iv,RS.vv,Jm,if_true]using hk
 ·injection he with he;subst he;simpa only[RS.iv,RS.vv,Jm,Bool.false_eq_true,if_false]using hk
 ·cases he
theorem Aiz{p x y:RS}(hx:x.wf n)(hy:y.wf n)(he:Zm p x y=some v):v.wf n:=by
 unfold Zm at he;split at he
 ·injection he with he;subst he;exact hx
 ·injection he with he;subst he;exact hy
 ·cases he
def eLen(i:TK)(x:RS):Option RS:=match i.td with
 | .str=>match x with
  | .v (.string s)=>some (.v (.int .i64 (.ofNat s.data.toList.length)))
  |_=>none
 | .sl _ _ _ _=>match x with
  | .sl _ es=>some (.v (.int .i64 (.ofNat es.length)))
  | .fsl _ es=>some (.v (.int .i64 (.ofNat es.length)))
  | .v (.slice _ n _)=>some (.v (.int .i64 (.ofNat n)))
  | .row _ n=>some (.v (.int .i64 (.ofNat n)))
  | .part _ _ _ n=>some (.v (.int .i64 (.ofNat n)))
  | .mt _ _ _=>some (.v (.int .i64 (.ofNat 0)))
  |_=>none
 | .arr m _ _=>some (.v (.int .i64 (.ofNat m)))
 |_=>none
theorem Amt{i:TK}{x:RS}(he:eLen i x=some v)(hk:K (v.iv c)):K7 (some i) (x.iv c) K:=by
 unfold eLen at he;simp only[K7];split at he
 ·rename_i htd
  simp only[htd];split at he
  ·injection he with he;subst he
   simpa only[RS.iv,RS.vv,ByteArray.size,Array.length_toList,Int.ofNat_eq_natCast]using hk
  ·cases he
 ·rename_i htd
  simp only[htd]
  split at he<;>first
   |(cases he;done)
   |(injection he with he;subst he;simpa only[RS.iv,RS.vv,Bu,Int.ofNat_eq_natCast]using hk)
 ·rename_i htd
  simp only[htd];injection he with he;subst he;simpa only[RS.iv,RS.vv,Int.ofNat_eq_natCast]using hk
 ·cases he
theorem Amu{i:TK}{x:RS}(he:eLen i x=some v):v.wf n:=by
 unfold eLen at he;split at he
 ·split at he<;>first|(cases he;done)|(injection he with he;subst he;simp only[RS.wf])
 ·split at he<;>first|(cases he;done)|(injection he with he;subst he;simp only[RS.wf])
 ·injection he with he;subst he;simp only[RS.wf]
 ·cases he
def N8(fs:Nat→Option (Nat×Nat)):List RS→List (Nat×RS)→Option RS
 |cs,[]=>some (.agg cs)
 |cs,(j,x)::r=>match fs j with
  |some (off,sz)=>gd (Nat.beq x.cells.length sz&&Nat.ble (off+sz) cs.length) (N8 fs (Mn cs off x.cells) r)
  |none=>none
def ivp(c:Cx)(ps:List (Nat×RS)):List (Nat×AV):=ps.map fun p=>(p.1,p.2.iv c)
theorem S7(ha:∀i,(c.a i).one=true∧(c.a i).cells=[c.a i]){fs:Nat→Option (Nat×Nat)}(hk:K (v.iv c)):∀{ps:List (Nat×RS)} {cs:List RS},N8 fs cs ps=some v→Hh fs K (RS.ivs c cs) (ivp c ps)
 | [],cs,he=>by simp only[N8,Option.some.injEq]at he;subst he;simpa only[RS.iv,ivp,List.map_nil,Hh]using hk
 |(j,x)::r,cs,he=>by
  simp only[N8]at he;simp only[ivp,List.map_cons,Hh];split at he
  ·rename_i off sz hf
   rw[Ak,Bool.and_eq_true,A1,Bz]at he;simp only[hf,Ld ha,Db];refine⟨he.1.1,he.1.2,?_⟩;rw[←No];exact S7 ha hk he.2
  ·cases he
theorem S8{fs:Nat→Option (Nat×Nat)}:∀{ps:List (Nat×RS)} {cs:List RS},(∀p∈ps,p.2.wf n)→RS.wfs n cs→N8 fs cs ps=some v→v.wf n
 | [],cs,_,hc,he=>by simp only[N8,Option.some.injEq]at he;subst he;simpa only[RS.wf]using hc
 |(j,x)::r,cs,hp,hc,he=>by
  simp only[N8]at he;split at he
  ·rw[Ak]at he
   exact S8 (fun p h=>hp p (by simp[h])) (Nv _ hc (N6 (hp (j,x) (by simp)))) he.2
  ·cases he
def S5(i:TK)(ps:List (Nat×RS)):Option RS:=match i.td with
 | .st fs=>N8 (fun j=>(fs[j]?).map fun f=>(f.1,f.2.1)) (i.zr.map .v) ps
 | .arr _ esz _=>N8 (fun j=>some (j*esz,esz)) (i.zr.map .v) ps
 |_=>none
theorem Agi(ha:∀i,(c.a i).one=true∧(c.a i).cells=[c.a i]){i:TK}{ps:List (Nat×RS)}(he:S5 i ps=some v)(hk:K (v.iv c)):H6 (some i) (ivp c ps) K:=by
 unfold S5 at he;simp only[H6];split at he
 ·rename_i fs htd;simp only[htd];rw[←Tp c];exact S7 ha hk he
 ·rename_i m esz ag htd;simp only[htd];rw[←Tp c];exact S7 ha hk he
 ·cases he
theorem Agj{i:TK}{ps:List (Nat×RS)}(hp:∀p∈ps,p.2.wf n)(he:S5 i ps=some v):v.wf n:=by
 unfold S5 at he;split at he
 ·exact S8 hp (Us n _) he
 ·exact S8 hp (Us n _) he
 ·cases he
def Lf(esz:Nat):List (List RS)→List (Nat×RS)→Option RS
 |es,[]=>some (.fsl esz es)
 |es,(j,x)::r=>gd (Nat.blt j es.length&&Nat.beq x.cells.length esz&&x.cells.all RS.one) (Lf esz (es.set j x.cells) r)
theorem U7(ha:∀i,(c.a i).one=true∧(c.a i).cells=[c.a i]){esz:Nat}(hk:K (v.iv c)):∀{ps:List (Nat×RS)} {es:List (List RS)},Lf esz es ps=some v→Hp esz (fun es=>K (.fsl esz es)) (RS.ivss c es) (ivp c ps)
 | [],es,he=>by simp only[Lf,Option.some.injEq]at he;subst he;simpa only[RS.iv,ivp,List.map_nil,Hp]using hk
 |(j,x)::r,es,he=>by
  simp only[Lf]at he;simp only[ivp,List.map_cons,Hp];rw[Ak,Bool.and_eq_true,Bool.and_eq_true,Be,A1]at he;simp only[Ld ha,Db,Bu,Xo ha];refine⟨he.1.1.1,he.1.1.2,he.1.2,?_⟩;rw[←Z9];exact U7 ha hk he.2
theorem U8{esz:Nat}:∀{ps:List (Nat×RS)} {es:List (List RS)},(∀p∈ps,p.2.wf n)→RS.wfss n es→Lf esz es ps=some v→v.wf n
 | [],es,_,hc,he=>by simp only[Lf,Option.some.injEq]at he;subst he;simpa only[RS.wf]using hc
 |(j,x)::r,es,hp,hc,he=>by
  simp only[Lf]at he;rw[Ak]at he;exact U8 (fun p h=>hp p (by simp[h])) (Abn hc (N6 (hp (j,x) (by simp)))) he.2
theorem Z8(m:Nat)(l:List Value):RS.ivss c (List.replicate m (l.map .v))=List.replicate m (l.map AV.v):=by
 rw[Cq,List.map_replicate,Tp]
theorem Abm(n m:Nat)(l:List Value):RS.wfss n (List.replicate m (l.map .v)):=Dc.2 fun x hx=>by
 obtain⟨_,rfl⟩:=List.mem_replicate.1 hx;exact Us n l
def N7(i:TK)(len:Nat)(ps:List (Nat×RS)):Option RS:=match i.td with
 | .sl esz _ ez _=>gd (Nat.blt 0 esz&&Nat.ble (len*esz) 16777216&&ez.all Value.oneCell') (Lf esz (List.replicate len (ez.map .v)) ps)
 |_=>none
theorem Abz(ha:∀i,(c.a i).one=true∧(c.a i).cells=[c.a i]){i:TK}{len:Nat}{ps:List (Nat×RS)}(he:N7 i len ps=some v)(hk:K (v.iv c)):He (some i) len (ivp c ps) K:=by
 unfold N7 at he;simp only[He];split at he
 ·rename_i esz eby ez byt htd
  simp only[htd];rw[Ak,Bool.and_eq_true,Bool.and_eq_true,Be,Bz]at he;refine⟨he.1.1.1,he.1.1.2,he.1.2,?_⟩;rw[←Z8 (c:=c)];exact U7 ha hk he.2
 ·cases he
theorem Ab0{i:TK}{len:Nat}{ps:List (Nat×RS)}(hp:∀p∈ps,p.2.wf n)(he:N7 i len ps=some v):v.wf n:=by
 unfold N7 at he;split at he
 ·rw[Ak]at he
  exact U8 hp (Abm n _ _) he.2
 ·cases he
def eEvp(fr:Tr RS):List (Nat×Operand)→Option (List (Nat×RS))
 | []=>some []
 |(j,x)::l=>match eEv fr x with
  |some v=>match eEvp fr l with
   |some vs=>some ((j,v)::vs)
   |none=>none
  |none=>none
theorem Wy:∀{l:List (Nat×Operand)} {vs:List (Nat×RS)},eEvp fr l=some vs→evs (ifr c fr).ev l=ivp c vs
 | [],vs,he=>by simp only[eEvp,Option.some.injEq]at he;subst he;rfl
 |(j,x)::l,vs,he=>by
  simp only[eEvp]at he;split at he
  ·rename_i v hv
   split at he
   ·rename_i vs' hvs
    injection he with he;subst he;have:=Wy hvs;simp only[evs,ivp,List.map_cons,Bh hv]at this⊢;rw[this]
   ·cases he
  ·cases he
theorem Wz(hf:wfr n fr):∀{l:List (Nat×Operand)} {vs:List (Nat×RS)},eEvp fr l=some vs→∀p∈vs,p.2.wf n
 | [],vs,he=>by simp only[eEvp,Option.some.injEq]at he;subst he;exact fun p hp=>by cases hp
 |(j,x)::l,vs,he=>by
  simp only[eEvp]at he;split at he
  ·rename_i v hv
   split at he
   ·rename_i vs' hvs
    injection he with he;subst he;intro p hp;rcases List.mem_cons.1 hp with rfl|hp
    ·exact Cl hf hv
    ·exact Wz hf hvs p hp
   ·cases he
  ·cases he
end
def lim:IntKind→Nat
 | .i8| .u8=>256
 | .i16| .u16=>65536
 | .i32| .u32=>4294967296
 | .i64| .u64=>18446744073709551616
def half:IntKind→Nat
 | .i8=>128
 | .u8=>256
 | .i16=>32768
 | .u16=>65536
 | .i32=>2147483648
 | .u32=>4294967296
 | .i64=>9223372036854775808
 | .u64=>18446744073709551616
def wr(k:IntKind)(r:Nat):Int:=match Nat.blt r (half k)with
 |true=>.ofNat r
 |false=>Int.subNatNat r (lim k)
def Jt(k:IntKind):Int→Int
 | .ofNat m=>wr k (m % lim k)
 | .negSucc m=>wr k (lim k-1-m % lim k)
theorem Aqr(k:IntKind)(r:Nat)(n:Int)(h:(r:Int)=n %(lim k:Int)):wr k r=k.wrap n:=by
 unfold wr;rw[IntKind.wrap];cases hb:Nat.blt r (half k)with
 |true=>
  rw[Be]at hb;simp only;cases k<;>simp only[half,lim,IntKind.bits,IntKind.signed,Int.ofNat_eq_natCast]at hb h⊢ <;>simp<;>omega
 |false=>
  have hb':¬r<half k:=fun h=>by rw[←Be,hb]at h;cases h
  simp only[Int.subNatNat_eq_coe];cases k<;>simp only[half,lim,IntKind.bits,IntKind.signed]at hb' h⊢ <;>simp<;>omega
theorem Dt(k:IntKind)(n:Int):Jt k n=k.wrap n:=by
 cases n with
 |ofNat m=>
  refine Aqr k _ _ ?_;simp
 |negSucc m=>
  refine Aqr k _ _ ?_;have:0<lim k:=by cases k<;>decide
  have h2:m % lim k<lim k:=Nat.mod_lt _ this;have e:(Int.negSucc m)%(lim k:Int)=(lim k:Int)-1-((m % lim k:Nat):Int):=by
   rw[Int.negSucc_emod _ (by omega)];simp
  rw[e];omega
def ieq:Int→Int→Bool
 | .ofNat a,.ofNat b=>Nat.beq a b
 | .negSucc a,.negSucc b=>Nat.beq a b
 |_,_=>false
def ilt:Int→Int→Bool
 | .ofNat a,.ofNat b=>Nat.blt a b
 | .negSucc a,.negSucc b=>Nat.blt b a
 | .negSucc _,.ofNat _=>true
 | .ofNat _,.negSucc _=>false
theorem Sj{b:Bool}{p:Prop}[Decidable p](h:b=true↔p):b=decide p:=by
 cases b with
 |true=>exact(decide_eq_true (h.1 rfl)).symm
 |false=>exact(decide_eq_false fun hp=>by have:=h.2 hp;cases this).symm
theorem Qp(a b:Int):ieq a b=decide (a=b):=Sj (by
 cases a<;>cases b<;>simp only[ieq,A1,Int.ofNat_eq_natCast,Bool.false_eq_true,false_iff,true_iff]<;>omega)
theorem Acf(a b:Int):ilt a b=decide (a<b):=Sj (by
 cases a<;>cases b<;>simp only[ilt,Be,Int.ofNat_eq_natCast,Bool.false_eq_true,false_iff,true_iff]<;>omega)
theorem Ae6(a b:Int):(!ilt a b)=decide (b≤a):=by
 rw[Acf];by_cases h:a<b
 ·rw[decide_eq_true h,decide_eq_false (by omega)];rfl
 ·rw[decide_eq_false h,decide_eq_true (by omega)];rfl
def Kj(op:BinOp)(k:IntKind)(x y:Int):Option Value:=match op with
 | .add=>some (.int k (Jt k (x+y)))
 | .sub=>some (.int k (Jt k (x-y)))
 | .mul=>some (.int k (Jt k (x*y)))
 | .quo=>gd (!ieq y 0) (some (.int k (Jt k (x.tdiv y))))
 | .rem=>gd (!ieq y 0) (some (.int k (x.tmod y)))
 | .eql=>some (.bool (ieq x y))
 | .neq=>some (.bool (!ieq x y))
 | .lss=>some (.bool (ilt x y))
 | .leq=>some (.bool (!ilt y x))
 | .gtr=>some (.bool (ilt y x))
 | .geq=>some (.bool (!ilt x y))
 | .shl=>match y with
  | .ofNat m=>some (.int k (Jt k (x*((2^min m k.bits:Nat):Int))))
  | .negSucc _=>none
 | .shr=>match y with
  | .ofNat m=>some (.int k (x.fdiv ((2^min m k.bits:Nat):Int)))
  | .negSucc _=>none
 | .and=>some (.int k (Jt k ((BitVec.ofInt k.bits x&&&BitVec.ofInt k.bits y).toNat:Int)))
 | .or=>some (.int k (Jt k ((BitVec.ofInt k.bits x|||BitVec.ofInt k.bits y).toNat:Int)))
 | .xor=>some (.int k (Jt k ((BitVec.ofInt k.bits x^^^BitVec.ofInt k.bits y).toNat:Int)))
 | .andNot=>some (.int k (Jt k ((BitVec.ofInt k.bits x&&& ~~~BitVec.ofInt k.bits y).toNat:Int)))
section
variable{K:AV→Prop}
theorem Ams{op:BinOp}{k:IntKind}{x y:Int}{v:Value}(he:Kj op k x y=some v)(hk:K (.v v)):Fz op k x y K:=by
 cases op with
 |add=>simp only[Kj,Option.some.injEq]at he;subst he;rw[Dt]at hk;exact hk
 |sub=>simp only[Kj,Option.some.injEq]at he;subst he;rw[Dt]at hk;exact hk
 |mul=>simp only[Kj,Option.some.injEq]at he;subst he;rw[Dt]at hk;exact hk
 |and=>simp only[Kj,Option.some.injEq]at he;subst he;rw[Dt]at hk;exact hk
 |or=>simp only[Kj,Option.some.injEq]at he;subst he;rw[Dt]at hk;exact hk
 |xor=>simp only[Kj,Option.some.injEq]at he;subst he;rw[Dt]at hk;exact hk
 |andNot=>simp only[Kj,Option.some.injEq]at he;subst he;rw[Dt]at hk;exact hk
 |quo=>
  simp only[Kj,Ak,Qp,Option.some.injEq]at he;obtain⟨h1,rfl⟩:=he;rw[Dt]at hk;exact⟨by simpa using h1,hk⟩
 |rem=>
  simp only[Kj,Ak,Qp,Option.some.injEq]at he;obtain⟨h1,rfl⟩:=he;exact⟨by simpa using h1,hk⟩
 |eql=>simp only[Kj,Option.some.injEq]at he;subst he;rw[Qp]at hk;exact hk
 |neq=>simp only[Kj,Option.some.injEq]at he;subst he;rw[Qp]at hk;simpa only[Fz,ne_eq,decide_not]using hk
 |lss=>simp only[Kj,Option.some.injEq]at he;subst he;rw[Acf]at hk;exact hk
 |leq=>simp only[Kj,Option.some.injEq]at he;subst he;rw[Ae6]at hk;exact hk
 |gtr=>simp only[Kj,Option.some.injEq]at he;subst he;rw[Acf]at hk;exact hk
 |geq=>simp only[Kj,Option.some.injEq]at he;subst he;rw[Ae6]at hk;exact hk
 |shl=>
  simp only[Kj]at he;cases y with
  |ofNat m=>
   simp only[Option.some.injEq]at he;subst he;rw[Dt]at hk;simp only[Fz,Int.ofNat_eq_natCast,Int.toNat_natCast];refine⟨by omega,?_⟩;simpa using hk
  |negSucc m=>cases he
 |shr=>
  simp only[Kj]at he;cases y with
  |ofNat m=>
   simp only[Option.some.injEq]at he;subst he;simp only[Fz,Int.ofNat_eq_natCast,Int.toNat_natCast];refine⟨by omega,?_⟩;simpa using hk
  |negSucc m=>cases he
def Rm:List UInt8→List UInt8→Bool
 | [],[]=>true
 |a::x,b::y=>match Nat.beq a.toNat b.toNat with
  |true=>Rm x y
  |false=>false
 |_,_=>false
def bltB:List UInt8→List UInt8→Bool
 |_,[]=>false
 | [],_::_=>true
 |a::x,b::y=>match Nat.blt a.toNat b.toNat with
  |true=>true
  |false=>match Nat.beq a.toNat b.toNat with
   |true=>bltB x y
   |false=>false
theorem Sg:∀{x y:List UInt8},Rm x y=true↔x=y
 | [],[]=>by simp[Rm]
 | [],_::_=>by simp[Rm]
 |_::_,[]=>by simp[Rm]
 |a::x,b::y=>by
  simp only[Rm];cases hb:Nat.beq a.toNat b.toNat with
  |true=>
   rw[A1]at hb;have hab:a=b:=UInt8.toNat_inj.1 hb;simp only[Sg (x:=x),hab,List.cons.injEq,true_and]
  |false=>
   have hab:a≠b:=fun e=>by subst e;rw[Nat.beq_refl]at hb;cases hb
   simp[hab]
theorem N4:∀(x y:List UInt8),bltB x y=Op.bytesLess x y
 | [],[]=>by simp only[bltB,Op.bytesLess]
 |_::_,[]=>by simp only[bltB,Op.bytesLess]
 | [],_::_=>by simp only[bltB,Op.bytesLess]
 |a::x,b::y=>by
  simp only[bltB,Op.bytesLess];cases hl:Nat.blt a.toNat b.toNat with
  |true=>
   rw[Be]at hl;have:a<b:=UInt8.lt_iff_toNat_lt.2 hl;simp[this]
  |false=>
   have hl':¬a<b:=fun h=>by
    have:=Be.2 (UInt8.lt_iff_toNat_lt.1 h);rw[hl]at this;cases this
   cases hb:Nat.beq a.toNat b.toNat with
   |true=>
    rw[A1]at hb;have hab:a=b:=UInt8.toNat_inj.1 hb;simp[hl',hab,N4 x y]
   |false=>
    have hab:a≠b:=fun e=>by subst e;rw[Nat.beq_refl]at hb;cases hb
    simp[hl',hab]
theorem Adx{x y:ByteArray}:x=y↔x.data.toList=y.data.toList:=by
 cases x;cases y
 simp[ByteArray.mk.injEq,Array.toList_inj]
theorem Rq(x:ByteArray):x.toList=x.data.toList:=by
 exact ByteArray.toList_eq x
def eStr(op:BinOp)(x y:List UInt8):Option Value:=match op with
 | .add=>gd (Nat.ble (x.length+y.length) 9223372036854775807) (some (.string ⟨(x++y).toArray⟩))
 | .eql=>some (.bool (Rm x y))
 | .neq=>some (.bool (!Rm x y))
 | .lss=>some (.bool (bltB x y))
 | .leq=>some (.bool (bltB x y||Rm x y))
 | .gtr=>some (.bool (!(bltB x y||Rm x y)))
 | .geq=>some (.bool (!bltB x y))
 |_=>none
theorem Lb(x y:ByteArray):Rm x.data.toList y.data.toList=decide (x=y):=Sj (by rw[Sg,←Adx])
theorem Aq0(x y:ByteArray):(⟨(x.data.toList++y.data.toList).toArray⟩:ByteArray)=x++y:=Adx.2 (by simp)
theorem Am2{op:BinOp}{x y:ByteArray}{v:Value}(he:eStr op x.data.toList y.data.toList=some v)(hk:K (.v v)):K9 op x y K:=by
 cases op with
 |add=>
  simp only[eStr,Ak,Bz,Option.some.injEq]at he;obtain⟨h1,rfl⟩:=he;rw[Aq0]at hk;exact⟨by simpa only[Array.length_toList,ByteArray.size]using h1,hk⟩
 |eql=>simp only[eStr,Option.some.injEq]at he;subst he;rw[Lb]at hk;exact hk
 |neq=>simp only[eStr,Option.some.injEq]at he;subst he;rw[Lb]at hk;simpa only[K9,ne_eq,decide_not]using hk
 |lss=>simp only[eStr,Option.some.injEq]at he;subst he;rw[N4]at hk;simpa only[K9,Rq]using hk
 |leq=>simp only[eStr,Option.some.injEq]at he;subst he;rw[N4,Lb]at hk;simpa only[K9,Rq]using hk
 |gtr=>simp only[eStr,Option.some.injEq]at he;subst he;rw[N4,Lb]at hk;simpa only[K9,Rq]using hk
 |geq=>simp only[eStr,Option.some.injEq]at he;subst he;rw[N4]at hk;simpa only[K9,Rq]using hk
 |_=>cases he
end
structure TE where
 k:TK
 sl:Bool
 ptr:Bool
 fn:Bool
 mp:Bool
 bl:Bool
 cc:Bool
 lv:Option (List Dp)
structure Gl(P:Program)(t:TypeId)(e:TE):Prop where
 k:tk P t=some e.k
 sl:Fj P t=e.sl
 ptr:Em P t=e.ptr
 fn:isFn P t=e.fn
 mp:Tn P t=e.mp
 bl:Qr P t=e.bl
 cc:Lm P t=e.cc
 lv:∀ls,e.lv=some ls→N1 P t=true∧P.eqGuardType P.depth t=false∧Gc P 9 t=some ls
def We:List RS→Option (List Value)
 | []=>some []
 | .v x::l=>match We l with
  |some vs=>some (x::vs)
  |none=>none
 |_=>none
def Ry:Value→Value→Bool
 | .bool a,.bool b=>match a with
  |true=>b
  |false=>!b
 | .int _ a,.int _ b=>ieq a b
 | .string a,.string b=>Rm a.data.toList b.data.toList
 |_,_=>true
def eqLF:List Value→List Value→Bool
 |x::xs,y::ys=>match Ry x y with
  |true=>eqLF xs ys
  |false=>false
 |_,_=>true
def Lh:List Dp→List Value→Bool
 | [],[]=>true
 | .b::ls,.bool _::vs=>Lh ls vs
 | .s::ls,.string _::vs=>Lh ls vs
 | .i k::ls,.int k' _::vs=>match decide (k=k')with
  |true=>Lh ls vs
  |false=>false
 |_,_=>false
theorem Ab5(x y:Value):Ry x y=Hs x y:=by
 cases x<;>cases y<;>try rfl
 ·rename_i a b;cases a<;>cases b<;>rfl
 ·simp only[Ry,Hs,Qp]
 ·simp only[Ry,Hs,Lb]
theorem Aeo:∀(xs ys:List Value),eqLF xs ys=eqL xs ys
 | [],[]=>rfl
 | [],_::_=>rfl
 |_::_,[]=>rfl
 |x::xs,y::ys=>by
  simp only[eqLF,eqL,Ab5,Aeo xs ys];cases Hs x y<;>rfl
theorem Oh:∀{ls:List Dp} {vs:List Value},Lh ls vs=true→Fit ls vs=true
 | [],[],_=>rfl
 | .b::ls,.bool _::vs,h=>by simp only[Lh]at h;simp[Fit,Dp.ok,Oh h]
 | .s::ls,.string _::vs,h=>by simp only[Lh]at h;simp[Fit,Dp.ok,Oh h]
 | .i k::ls,.int k' _::vs,h=>by
  simp only[Lh]at h;split at h
  ·rename_i hk;simp[Fit,Dp.ok,Oh h,hk]
  ·cases h
 | [],_::_,h=>by simp[Lh]at h
 |l::_,[],h=>by cases l<;>simp[Lh]at h
 | .b::_,.int _ _::_,h=>by simp[Lh]at h
 | .b::_,.string _::_,h=>by simp[Lh]at h
 | .s::_,.bool _::_,h=>by simp[Lh]at h
 | .s::_,.int _ _::_,h=>by simp[Lh]at h
 | .i _::_,.bool _::_,h=>by simp[Lh]at h
 | .i _::_,.string _::_,h=>by simp[Lh]at h
section
variable{P:Program}{σ0 σ:St}{c c':Cx}{h h':Sto}{n:Nat}{fr:Tr RS}{v:RS}{K:AV→Prop}{k:AV→St→Prop}
theorem Uq:∀{l:List RS} {vs:List Value},We l=some vs→Ro (RS.ivs c l)=some vs
 | [],vs,he=>by simp only[We,Option.some.injEq]at he;subst he;rfl
 | .v x::l,vs,he=>by
  simp only[We]at he;split at he
  ·rename_i vs' hv
   injection he with he;subst he;simp only[RS.ivs,RS.iv,RS.vv,Ro,Uq hv,Option.map_some]
  ·cases he
def eEqv(neg:Bool)(te:TE):RS→RS→Option Bool
 | .v (.bool a),.v (.bool b)=>gd te.bl (some (match neg,a with|true,true=>!b|true,false=>b|false,true=>b|false,false=>!b))
 | .v (.pointer p),.v (.pointer none)=>gd te.ptr (some (match neg with|true=>p.isSome|false=>p.isNone))
 | .ptr _ _,.v (.pointer none)=>gd te.ptr (some neg)
 | .v (.pointer none),.ptr _ _=>gd te.ptr (some neg)
 | .fp _,.v (.pointer none)=>gd te.ptr (some neg)
 | .rp _ _ _ _,.v (.pointer none)=>gd te.ptr (some neg)
 | .v (.slice a _ _),.v (.slice none 0 0)=>gd te.sl (some (match neg with|true=>a.isSome|false=>a.isNone))
 | .row _ _,.v (.slice none 0 0)=>gd te.sl (some neg)
 | .part _ _ _ _,.v (.slice none 0 0)=>gd te.sl (some neg)
 | .mt _ _ _,.v (.slice none 0 0)=>gd te.sl (some neg)
 | .sl _ (_::_),.v (.slice none 0 0)=>gd te.sl (some neg)
 | .fsl _ (_::_),.v (.slice none 0 0)=>gd te.sl (some neg)
 | .v (.map m),.v (.map none)=>gd te.mp (some (match neg with|true=>m.isSome|false=>m.isNone))
 | .mp _,.v (.map none)=>gd te.mp (some neg)
 | .fn _ _ _,.v .nilFunc=>gd te.fn (some neg)
 | .yld _,.v .nilFunc=>gd te.fn (some neg)
 | .v .nilFunc,.v .nilFunc=>gd te.fn (some (!neg))
 |_,_=>none
def eAgg(neg:Bool)(te:TE)(xs ys:List RS):Option Bool:=match te.lv with
 |some ls=>match We xs with
  |some vs=>match We ys with
   |some ws=>gd (Lh ls vs&&Lh ls ws) (some (match neg with|true=>!eqLF vs ws|false=>eqLF vs ws))
   |none=>none
  |none=>none
 |none=>none
def eEq2(neg:Bool)(te:TE):RS→RS→Option Bool
 | .agg xs,.agg ys=>eAgg neg te xs ys
 |x,y=>eEqv neg te x y
def eBin(op:BinOp)(te:TE):RS→RS→Option RS
 | .v (.int k a),.v (.int k' b)=>match decide (k=k')||isSh op with
  |true=>match Kj op k a b with
   |some v=>some (.v v)
   |none=>none
  |false=>none
 | .v (.string a),.v (.string b)=>match eStr op a.data.toList b.data.toList with
  |some v=>some (.v v)
  |none=>none
 |x,y=>match op with
  | .eql=>match eEq2 false te x y with
   |some b=>some (.v (.bool b))
   |none=>none
  | .neq=>match eEq2 true te x y with
   |some b=>some (.v (.bool b))
   |none=>none
  |_=>none
theorem Amk{t:TypeId}{te:TE}(ht:Gl P t te){neg:Bool}{x y:RS}{b:Bool}(he:eEqv neg te x y=some b)(hk:K (.v (.bool b))):
  (∀op,op=(if neg then BinOp.neq else .eql)→D5 P op t (x.iv c) (y.iv c) K):=by
 rintro op rfl;unfold eEqv at he
 split at he<;>first
  |(cases he;done)
  |(rw[Ak]at he
    obtain⟨hf,he⟩:=he;injection he with he;subst he
    cases neg<;>first
     |(refine⟨ht.bl.trans hf,?_⟩;rename_i a b;cases a<;>cases b<;>exact hk)
     |exact⟨ht.ptr.trans hf,hk⟩
     |exact⟨ht.sl.trans hf,hk⟩
     |exact⟨ht.mp.trans hf,hk⟩
     |exact⟨ht.fn.trans hf,hk⟩
     |(refine⟨ht.sl.trans hf,fun _=>hk,fun h=>?_⟩;simp only[RS.ivss]at h;cases h))
theorem Amf{t:TypeId}{te:TE}(ht:Gl P t te){neg:Bool}{xs ys:List RS}{b:Bool}(he:eAgg neg te xs ys=some b)(hk:K (.v (.bool b))):Ri P neg t (.agg (RS.ivs c xs)) (.agg (RS.ivs c ys)) K:=by
 unfold eAgg at he;split at he
 ·rename_i ls hls
  split at he
  ·rename_i vs hvs
   split at he
   ·rename_i ws hws
    rw[Ak,Bool.and_eq_true]at he;obtain⟨hf,he⟩:=he;injection he with he;subst he;obtain⟨h1,h2,h3⟩:=ht.lv ls hls;refine⟨h1,h2,_,_,vs,ws,ls,rfl,rfl,Uq hvs,Uq hws,h3,Oh hf.1,Oh hf.2,?_⟩;rw[Aeo]at hk;cases neg<;>exact hk
   ·cases he
  ·cases he
 ·cases he
theorem Aek{t:TypeId}{te:TE}(ht:Gl P t te){neg:Bool}{x y:RS}{b:Bool}(he:eEq2 neg te x y=some b)(hk:K (.v (.bool b))):
  (∀op,op=(if neg then BinOp.neq else .eql)→D5 P op t (x.iv c) (y.iv c) K):=by
 unfold eEq2 at he;split at he
 ·rintro op rfl
  have:=Amf (c:=c) ht he hk;cases neg<;>exact this
 ·exact Amk ht he hk
theorem Amh{op:BinOp}{t:TypeId}{te:TE}(ht:Gl P t te){x y:RS}(he:eBin op te x y=some v)(hk:K (v.iv c)):D5 P op t (x.iv c) (y.iv c) K:=by
 unfold eBin at he;split at he
 ·rename_i k a k' b
  split at he
  ·rename_i hkk
   have hkk:k=k'∨isSh op=true:=by
    rcases Bool.or_eq_true _ _▸hkk with h|h
    ·exact .inl (of_decide_eq_true h)
    ·exact .inr h
   split at he
   ·rename_i w hw
    injection he with he;subst he;simp only[RS.iv,RS.vv]at hk⊢;exact⟨hkk,Ams hw hk⟩
   ·cases he
  ·cases he
 ·rename_i a b
  split at he
  ·rename_i w hw
   injection he with he;subst he;simp only[RS.iv,RS.vv]at hk⊢;exact Am2 hw hk
  ·cases he
 ·split at he
  ·split at he
   ·rename_i b hb
    injection he with he;subst he;simp only[RS.iv,RS.vv]at hk;exact Aek ht hb hk _ rfl
   ·cases he
  ·split at he
   ·rename_i b hb
    injection he with he;subst he;simp only[RS.iv,RS.vv]at hk;exact Aek ht hb hk _ rfl
   ·cases he
  ·cases he
theorem Ami{op:BinOp}{te:TE}{x y:RS}(he:eBin op te x y=some v):v.wf n:=by
 unfold eBin at he;split at he
 ·split at he
  ·split at he
   ·injection he with he;subst he;simp only[RS.wf]
   ·cases he
  ·cases he
 ·split at he
  ·injection he with he;subst he;simp only[RS.wf]
  ·cases he
 ·split at he
  ·split at he
   ·injection he with he;subst he;simp only[RS.wf]
   ·cases he
  ·split at he
   ·injection he with he;subst he;simp only[RS.wf]
   ·cases he
  ·cases he
def eUn(op:UnOp)(x:RS):Option RS:=match op,x with
 | .not,.v (.bool b)=>some (.v (.bool (!b)))
 | .neg,.v (.int ik m)=>some (.v (.int ik (Jt ik (0-m))))
 | .xor,.v (.int ik m)=>some (.v (.int ik (Jt ik ((BitVec.ofInt ik.bits (if ik.signed then-1 else ik.max)^^^BitVec.ofInt ik.bits m).toNat:Int))))
 |_,_=>none
theorem Aq5{op:UnOp}{x:RS}(he:eUn op x=some v)(hk:K (v.iv c)):aUn op (x.iv c) K:=by
 unfold eUn at he;split at he
 ·injection he with he;subst he;simpa only[RS.iv,RS.vv,aUn]using hk
 ·injection he with he;subst he;rw[Dt]at hk;simpa only[RS.iv,RS.vv,aUn]using hk
 ·injection he with he;subst he;rw[Dt]at hk;simpa only[RS.iv,RS.vv,aUn]using hk
 ·cases he
theorem Aq6{op:UnOp}{x:RS}(he:eUn op x=some v):v.wf n:=by
 unfold eUn at he;split at he
 ·injection he with he;subst he;simp only[RS.wf]
 ·injection he with he;subst he;simp only[RS.wf]
 ·injection he with he;subst he;simp only[RS.wf]
 ·cases he
end
section
variable{P:Program}{σ0 σ:St}{c c':Cx}{h h':Sto}{n:Nat}{fr:Tr RS}{v:RS}{K:AV→Prop}{k:AV→St→Prop}
def M5(d:Nat):Option RS→Option Nat
 |none=>some d
 |some x=>eNat x
theorem Hm{d:Nat}{x:Option RS}{j:Nat}(he:M5 d x=some j):Jx (d:Int) (x.map (RS.iv c))=some (j:Int):=by
 cases x with
 |none=>simp only[M5,Option.some.injEq]at he;subst he;rfl
 |some x=>
  obtain⟨ik,rfl⟩:=Oa he;simp only[Option.map_some,RS.iv,RS.vv,Jx]
def Qu(b q l0 l r:Nat):RS:=match Nat.beq (l0+l) 0 with
 |true=>.row b r
 |false=>match Nat.blt l r with
  |true=>.part b q (l0+l) (r-l)
  |false=>.mt b (fun m=>Gn (m-l0) l (l0*q) q) (fun m=>m-l0-l)
theorem Vo{b q l0 l r:Nat}(hl:l≤r)(hr:l0+r≤c.k b):(Qu b q l0 l r).iv c= .v (.slice (some ⟨c.r b,Gn (c.k b-l0) l (l0*q) q,none⟩) (r-l) (c.k b-l0-l)):=by
 unfold Qu;cases h1:Nat.beq (l0+l) 0 with
 |true=>
  rw[A1]at h1;obtain rfl:l0=0:=by omega
  obtain rfl:l=0:=by omega
  simp only[RS.iv,RS.vv,Gn,Nat.zero_mul,Nat.add_zero,Nat.sub_zero,ite_self]
 |false=>
  cases h2:Nat.blt l r with
  |true=>
   rw[Be]at h2;simp only[RS.iv,RS.vv,Gn];rw[if_neg (by omega),←Nat.add_mul,Nat.sub_sub]
  |false=>
   have h3:¬l<r:=fun h=>by rw[←Be,h2]at h;cases h
   obtain rfl:l=r:=by omega
   simp only[RS.iv,RS.vv,Nat.sub_self]
theorem Vp{b q l0 l r:Nat}(hb:b<n):(Qu b q l0 l r).wf n:=by
 unfold Qu;split
 ·simp only[RS.wf];exact hb
 ·split<;>(simp only[RS.wf];exact hb)
def Zo(q:Nat):RS→Option (List (List RS))
 | .sl q' es=>gd (Nat.beq q' q) (some es)
 | .fsl q' es=>gd (Nat.beq q' q) (some es)
 | .v (.slice none 0 0)=>some []
 |_=>none
theorem Ai1{q:Nat}{x:RS}{es:List (List RS)}(he:Zo q x=some es):view q σ (x.iv c)=some (RS.ivss c es):=by
 unfold Zo at he;split at he
 ·rw[Ak,A1]at he;obtain⟨rfl,he⟩:=he;injection he with he;subst he;simp only[RS.iv,view,if_true]
 ·rw[Ak,A1]at he;obtain⟨rfl,he⟩:=he;injection he with he;subst he;simp only[RS.iv,view,if_true]
 ·injection he with he;subst he;rfl
 ·cases he
theorem Ai2{q:Nat}{x:RS}{es:List (List RS)}(hx:x.wf n)(he:Zo q x=some es):RS.wfss n es:=by
 unfold Zo at he;split at he
 ·rw[Ak]at he;have he:=he.2;injection he with he;subst he;simpa only[RS.wf]using hx
 ·rw[Ak]at he;have he:=he.2;injection he with he;subst he;simpa only[RS.wf]using hx
 ·injection he with he;subst he;simp only[RS.wfss]
 ·cases he
def eSli(i:TK)(h:Sto)(x:RS)(lo hi mx:Option RS):Option RS:=match i.td with
 | .str=>match x,mx with
  | .v (.string s),none=>match M5 0 lo,M5 s.data.toList.length hi with
   |some l,some r=>gd (Nat.ble l r&&Nat.ble r s.data.toList.length) (some (.v (.string ⟨((s.data.toList.take r).drop l).toArray⟩)))
   |_,_=>none
  |_,_=>none
 | .sl q _ _ _=>match x,mx with
  | .row b n,none=>match M5 0 lo,M5 n hi with
   |some l,some r=>gd (Nat.ble l r&&Nat.ble r n&&Nat.ble n (h.get b).len) (some (Qu b q 0 l r))
   |_,_=>none
  | .part b q' l0 n,none=>match M5 0 lo,M5 n hi with
   |some l,some r=>gd (Nat.ble l r&&Nat.ble r n&&Nat.ble (l0+n) (h.get b).len&&Nat.beq q' q) (some (Qu b q l0 l r))
   |_,_=>none
  |x,none=>match Zo q x with
   |some es=>match M5 0 lo,M5 es.length hi with
    |some l,some r=>gd (Nat.ble l r&&Nat.ble r es.length) (some (.sl q ((es.take r).drop l)))
    |_,_=>none
   |none=>none
  |_,_=>none
 |_=>none
theorem Aq1(s:ByteArray)(l r:Nat)(h:r≤s.size):(⟨((s.data.toList.take r).drop l).toArray⟩:ByteArray)=s.extract l r:=Adx.2 (by
 simp[ByteArray.extract,ByteArray.copySlice,List.drop_take])
theorem Amy(hM:Mt σ0 c h σ){i:TK}{x:RS}{lo hi mx:Option RS}(hx:x.wf h.n)(he:eSli i h x lo hi mx=some v)(hk:K (v.iv c)):
  aSli (some i) σ (x.iv c) (lo.map (RS.iv c)) (hi.map (RS.iv c)) (mx.map (RS.iv c)) K:=by
 unfold eSli at he;simp only[aSli];split at he
 ·rename_i htd
  simp only[htd];split at he
  ·rename_i s
   split at he
   ·rename_i l r hl hr
    simp only[Ak,Bool.and_eq_true,Bz,Option.some.injEq]at he;obtain⟨⟨h1,h2⟩,rfl⟩:=he;have hsz:s.data.toList.length=s.size:=Array.length_toList;rw[hsz]at h2;simp only[RS.iv,RS.vv]at hk⊢;rw[Aq1 s l r h2]at hk;have h3:=Hm (c:=c) hl;have h4:=Hm (c:=c) hr;rw[hsz]at h4;exact⟨rfl,l,r,h3,h4,by omega,by omega,by omega,by simpa using hk⟩
   ·cases he
  ·cases he
 ·rename_i q eby ez byt htd
  simp only[htd];split at he
  ·rename_i b n
   split at he
   ·rename_i l r hl hr
    simp only[Ak,Bool.and_eq_true,Bz,Option.some.injEq]at he;obtain⟨⟨⟨h1,h2⟩,h3⟩,rfl⟩:=he;have hb:b<h.n:=by simpa only[RS.wf]using hx
    have hc:=hM.cap b hb;rw[Vo h1 (by omega)]at hk;refine .inl ⟨c.r b,0,n,c.k b,by simp only[RS.iv,RS.vv],(l:Int),(r:Int),(c.k b:Int),Hm hl,Hm hr,.inl ⟨rfl,rfl⟩,by omega,by omega,by omega,by omega,?_⟩;simpa only[Int.toNat_natCast,Nat.sub_zero,Nat.zero_mul]using hk
   ·cases he
  ·rename_i b q' l0 n
   split at he
   ·rename_i l r hl hr
    simp only[Ak,Bool.and_eq_true,Bz,A1,Option.some.injEq]at he;obtain⟨⟨⟨⟨h1,h2⟩,h3⟩,rfl⟩,rfl⟩:=he;have hb:b<h.n:=by simpa only[RS.wf]using hx
    have hc:=hM.cap b hb;rw[Vo h1 (by omega)]at hk;refine .inl ⟨c.r b,l0*q',n,c.k b-l0,by simp only[RS.iv,RS.vv],(l:Int),(r:Int),((c.k b-l0:Nat):Int),Hm hl,Hm hr,.inl ⟨rfl,rfl⟩,by omega,by omega,by omega,by omega,?_⟩;simpa only[Int.toNat_natCast]using hk
   ·cases he
  ·split at he
   ·rename_i es hes
    split at he
    ·rename_i l r hl hr
     simp only[Ak,Bool.and_eq_true,Bz,Option.some.injEq]at he;obtain⟨⟨h1,h2⟩,rfl⟩:=he;refine .inr ⟨RS.ivss c es,Ai1 hes,(l:Int),(r:Int),Hm hl,by rw[Bu];exact Hm hr,by omega,by omega,by rw[Bu];omega,.inl ⟨rfl,?_⟩⟩;simp only[RS.iv,Int.toNat_natCast,Hz,Mh]at hk⊢;exact hk
    ·cases he
   ·cases he
  ·cases he
 ·cases he
theorem Amz{i:TK}{x:RS}{lo hi mx:Option RS}(hx:x.wf n)(he:eSli i h x lo hi mx=some v):v.wf n:=by
 unfold eSli at he;split at he
 ·split at he
  ·split at he
   ·simp only[Ak,Option.some.injEq]at he
    obtain⟨_,rfl⟩:=he;simp only[RS.wf]
   ·cases he
  ·cases he
 ·split at he
  ·split at he
   ·simp only[Ak,Option.some.injEq]at he
    obtain⟨_,rfl⟩:=he;exact Vp (by simpa only[RS.wf]using hx)
   ·cases he
  ·split at he
   ·simp only[Ak,Option.some.injEq]at he
    obtain⟨_,rfl⟩:=he;exact Vp (by simpa only[RS.wf]using hx)
   ·cases he
  ·split at he
   ·rename_i es hes
    split at he
    ·simp only[Ak,Option.some.injEq]at he
     obtain⟨_,rfl⟩:=he;simp only[RS.wf];exact Ms _ (J9 _ (Ai2 hx hes))
    ·cases he
   ·cases he
  ·cases he
 ·cases he
def Zj(fn:Fn)(fi ca:List RS):Option RS:=match fn with
 | .func f=>gd (fi.all RS.isV&&ca.all RS.isV) (some (.fn f fi ca))
 |_=>none
theorem Qi{ev:Operand→AV}:∀{l:List Operand} {vs:List RS},l.map ev=vs.map (RS.iv c)→vs.all RS.isV=true→C2 ev l=some (RS.vvs c vs)
 | [],[],_,_=>rfl
 |x::l,v::vs,h,hv=>by
  simp only[List.map_cons,List.cons.injEq]at h;simp only[List.all_cons,Bool.and_eq_true]at hv;simp only[C2,h.1,Ij hv.1,Qi h.2 hv.2,RS.vvs]
 | [],_::_,h,_=>by simp at h
 |_::_,[],h,_=>by simp at h
theorem Aio{ev:Operand→AV}{fn:Fn}{l m:List Operand}{fi ca:List RS}(hl:l.map ev=fi.map (RS.iv c))(hm:m.map ev=ca.map (RS.iv c))(he:Zj fn fi ca=some v)(hk:K (v.iv c)):Eu fn ev l m K:=by
 unfold Zj at he;split at he
 ·rw[Ak,Bool.and_eq_true]at he
  obtain⟨hf,he⟩:=he;injection he with he;subst he;simp only[Eu,Qi hl hf.1,Qi hm hf.2];simpa only[RS.iv,RS.vv]using hk
 ·cases he
theorem Aip{fn:Fn}{fi ca:List RS}(h1:RS.wfs n fi)(h2:RS.wfs n ca)(he:Zj fn fi ca=some v):v.wf n:=by
 unfold Zj at he;split at he
 ·rw[Ak]at he
  have he:=he.2;injection he with he;subst he;simp only[RS.wf];exact⟨h1,h2⟩
 ·cases he
def eMkI(te:TE)(t:TypeId)(x:RS):Option RS:=gd (te.cc&&x.isV) (some (.ifc t x))
theorem Amv{t:TypeId}{te:TE}(ht:Gl P t te){x:RS}(he:eMkI te t x=some v)(hk:K (v.iv c)):aMkI P t (x.iv c) K:=by
 unfold eMkI at he;rw[Ak,Bool.and_eq_true]at he;obtain⟨hf,he⟩:=he;injection he with he;subst he;refine⟨ht.cc.trans hf.1,?_⟩;rw[Ij hf.2];simpa only[RS.iv,RS.vv]using hk
def eTyA(te:TE)(u:TypeId)(x:RS):Option RS:=match x with
 | .ifc t y=>gd (te.cc&&y.isV&&Nat.beq t u) (some y)
 |_=>none
theorem Am3{u:TypeId}{te:TE}(ht:Gl P u te){x:RS}(he:eTyA te u x=some v)(hk:K (v.iv c)):aTyA P u (x.iv c) K:=by
 unfold eTyA at he;split at he
 ·rename_i t y
  rw[Ak,Bool.and_eq_true,Bool.and_eq_true,A1]at he;obtain⟨⟨⟨h1,h2⟩,h3⟩,he⟩:=he;injection he with he;subst he;rw[Ij h2]at hk;simp only[RS.iv,RS.vv];exact⟨ht.cc.trans h1,h3,hk⟩
 ·cases he
def Sn:List (List RS)→Option (List UInt8)
 | []=>some []
 | [.v (.int .u8 (.ofNat m))]::l=>match Sn l with
  |some bs=>some (UInt8.ofNat m::bs)
  |none=>none
 |_=>none
theorem U1:∀{es:List (List RS)} {bs:List UInt8},Sn es=some bs→(RS.ivss c es).all Nn=true∧(RS.ivss c es).map Wt=bs
 | [],bs,he=>by simp only[Sn,Option.some.injEq]at he;subst he;exact⟨rfl,rfl⟩
 |e::l,bs,he=>by
  unfold Sn at he;split at he
  ·rename_i h;cases h
  ·rename_i m l' heq
   injection heq with h1 h2;subst h1;subst h2;split at he
   ·rename_i bs' hb
    injection he with he;subst he;obtain⟨g1,g2⟩:=U1 (es:=l) hb;simp only[RS.ivss,RS.ivs,RS.iv,RS.vv,List.all_cons,Nn,g1,Bool.and_self,List.map_cons,Wt,g2,Int.ofNat_eq_natCast,Int.toNat_natCast,and_self]
   ·cases he
  ·cases he
def Aiu(q:Nat)(h:Sto):RS→Option (List (List RS))
 | .sl q' es=>gd (Nat.beq q' q) (some es)
 | .fsl q' es=>gd (Nat.beq q' q) (some es)
 | .v (.slice none 0 0)=>some []
 | .row b n=>match h.get b with
  | .rows q' es _=>gd (Nat.beq q' q&&Nat.ble n es.length) (some (es.take n))
  |_=>none
 |_=>none
theorem Aiv(hM:Mt σ0 c h σ){q:Nat}{x:RS}{es:List (List RS)}(hx:x.wf h.n)(he:Aiu q h x=some es):Pw q σ (x.iv c)=some (RS.ivss c es):=by
 unfold Aiu at he;split at he
 ·rw[Ak,A1]at he;obtain⟨rfl,he⟩:=he;injection he with he;subst he;simp only[RS.iv,Pw,if_true]
 ·rw[Ak,A1]at he;obtain⟨rfl,he⟩:=he;injection he with he;subst he;simp only[RS.iv,Pw,if_true]
 ·injection he with he;subst he;rfl
 ·rename_i b n
  split at he
  ·rename_i q' es' frz hb
   rw[Ak,Bool.and_eq_true,A1,Bz]at he;obtain⟨⟨rfl,h1⟩,he⟩:=he;injection he with he;subst he;have hbn:b<h.n:=by simpa only[RS.wf]using hx
   have h2:=hM.ob b (.rows q' (RS.ivss c es') frz (c.k b)) hbn (by rw[hb];rfl);have hc:=hM.cap b hbn;rw[hb]at hc;simp only[SO.len]at hc;simp only[RS.iv,RS.vv,Pw,h2,Bu,Hz];rw[if_pos ⟨trivial,h1,by omega⟩]
  ·cases he
 ·cases he
def Vv(b:UInt8):List RS:=[.v (.int .u8 (.ofNat b.toNat))]
theorem Aar(l:List UInt8):RS.ivss c (l.map Vv)=l.map H9:=by
 rw[Cq,List.map_map];refine List.map_congr_left fun b _=>?_;simp only[Function.comp,Vv,RS.ivs,RS.iv,RS.vv,H9,Int.ofNat_eq_natCast]
theorem Aas(n:Nat)(l:List UInt8):RS.wfss n (l.map Vv):=Dc.2 fun x hx=>by
 obtain⟨b,_,rfl⟩:=List.mem_map.1 hx;simp only[Vv,RS.wfs,RS.wf,and_self]
def Aik(i j:TK)(h:Sto)(x:RS):Option (RS×Sto):=match i.td,j.td with
 | .int _,.int ik=>match x with
  | .v (.int _ m)=>some (.v (.int ik (Jt ik m)),h)
  |_=>none
 | .str,.str=>match x with
  | .v (.string s)=>some (.v (.string s),h)
  |_=>none
 | .str,.sl 1 _ _ true=>match x with
  | .v (.string s)=>match h.new (.rows 1 (s.data.toList.map Vv) false)with
   |some (b,h')=>some (.row b s.data.toList.length,h')
   |none=>none
  |_=>none
 | .sl 1 _ _ true,.str=>match Aiu 1 h x with
  |some es=>match Sn es with
   |some bs=>some (.v (.string ⟨bs.toArray⟩),h)
   |none=>none
  |none=>none
 |_,_=>none
def Kt(σ0:St)(c:Cx)(h:Sto)(v:RS)(h':Sto)(k:AV→St→Prop):Prop:=
 ∀c' σ',Fp h.n c c'→Mt σ0 c' h' σ'→h.n≤h'.n→K0 h h'→v.wf h'.n→k (v.iv c') σ'
theorem Kt.same(hM:Mt σ0 c h σ)(hk:Kt σ0 c h v h k)(hv:v.wf h.n):k (v.iv c) σ:=hk c σ (.refl _ _) hM (Nat.le_refl _) (.refl h) hv
theorem Kt.new(hM:Mt σ0 c h σ){o:SO}{i:Nat}(hn:h.new o=some (i,h'))(hw:o.wf h.n){b kk:Nat}{x:Cj}(hb:σ b=none)(hx:io (c.more h.n b kk) h.n o=some x)(hc:o.len≤kk)
  (hk:Kt σ0 c h v h' k) (hv:v.wf (h.n+1)):k (v.iv (c.more h.n b kk)) (σ.set b x):=by
 obtain⟨h1,h2,h3⟩:=hM.new hb hn hx hw hc;exact hk _ _ (Im c h.n b kk) h3 (by omega) (.new hn) (by rw[h2];exact hv)
theorem Vq{o:SO}{i:Nat}(hn:h.new o=some (i,h')):i=h.n:=by
 unfold Sto.new at hn;rw[Ak]at hn;have:=hn.2;injection this with this;injection this with h1 h2;exact h1.symm
theorem Ail(hM:Mt σ0 c h σ){i j:TK}{x:RS}(hx:x.wf h.n)(he:Aik i j h x=some (v,h'))(hk:Kt σ0 c h v h' k):Ji (some i) (some j) σ (x.iv c) k:=by
 unfold Aik at he;simp only[Ji];split at he
 ·rename_i htd htd2
  split at he
  ·injection he with he
   injection he with h1 h2;subst h1;subst h2;have:=hk.same hM (by simp only[RS.wf]);rw[Dt]at this;simpa only[htd,htd2,RS.iv,RS.vv]using this
  ·cases he
 ·rename_i htd htd2
  split at he
  ·injection he with he
   injection he with h1 h2;subst h1;subst h2;have:=hk.same hM (by simp only[RS.wf]);simpa only[htd,htd2,RS.iv,RS.vv]using this
  ·cases he
 ·rename_i eby ez htd htd2
  split at he
  ·rename_i s
   split at he
   ·rename_i b h2 hn
    injection he with he;injection he with h1 h3;subst h1;subst h3;simp only[htd,htd2,RS.iv,RS.vv];intro bb cap hbb hcap;have hsz:s.data.toList.length=s.size:=Array.length_toList;have hi:=Vq hn;subst hi;have:=Kt.new (kk:=cap) hM hn (Aas _ _) hbb (x:=.rows 1 (s.data.toList.map H9) false cap) (by simp only[io,Aar,Cx.more,if_true]) (by simp only[SO.len,List.length_map];omega) hk (by simp only[RS.wf];omega);simp only[RS.iv,RS.vv,Cx.more,if_true,hsz]at this;exact this
   ·cases he
  ·cases he
 ·rename_i eby ez htd htd2
  split at he
  ·rename_i es hes
   split at he
   ·rename_i bs hbs
    injection he with he;injection he with h1 h3;subst h1;subst h3;have h4:=U1 (c:=c) hbs;have:=hk.same hM (by simp only[RS.wf]);simp only[htd,htd2];have h5:=Aiv hM hx hes;have h6:Ue (RS.ivss c es)=⟨bs.toArray⟩:=by unfold Ue;rw[h4.2]
    have key:∃es,Pw 1 σ (x.iv c)=some es∧es.all Nn=true∧k (.v (.string (Ue es))) σ:=⟨_,h5,h4.1,by rw[h6];simpa only[RS.iv,RS.vv]using this⟩;generalize x.iv c=y at key;cases y<;>exact key
   ·cases he
  ·cases he
 ·cases he
def Abx(i:TK)(h:Sto):Option (RS×Sto):=match h.new (.cells (i.zr.map .v))with
 |some (b,h')=>some (.ptr b 0,h')
 |none=>none
theorem Agg(hM:Mt σ0 c h σ){i:TK}(he:Abx i h=some (v,h'))(hk:Kt σ0 c h v h' k):K5 (some i) σ k:=by
 unfold Abx at he;split at he
 ·rename_i b h2 hn
  injection he with he;injection he with h1 h3;subst h1;subst h3;have hi:=Vq hn;subst hi;intro bb hbb;have:=Kt.new (kk:=0) hM hn (Us _ _) hbb (x:=.cells (i.zr.map .v)) (by simp only[io,Tp]) (Nat.le_refl _) hk (by simp only[RS.wf];omega);simpa only[RS.iv,RS.vv,Cx.more,if_true]using this
 ·cases he
def eBox(x:RS)(h:Sto):Option (RS×Sto):=gd (x.cells.all RS.one) (match h.new (.cells x.cells)with
 |some (b,h')=>some (.ptr b 0,h')
 |none=>none)
theorem Amj(hM:Mt σ0 c h σ){x:RS}(hx:x.wf h.n)(he:eBox x h=some (v,h'))(hk:Kt σ0 c h v h' k):aBox (x.iv c) σ k:=by
 unfold eBox at he;rw[Ak]at he;obtain⟨hone,he⟩:=he;split at he
 ·rename_i b h2 hn
  injection he with he;injection he with h1 h3;subst h1;subst h3;have hi:=Vq hn;subst hi;refine⟨by rw[Ld hM.a,Xo hM.a];exact hone,fun bb hbb=>?_⟩;have hw:=N6 hx;have:=Kt.new (kk:=0) hM hn hw hbb (x:=.cells (x.iv c).cells) (by simp only[io];rw[Ft (Im c h.n bb 0) _ hw,Ld hM.a]) (Nat.le_refl _) hk (by simp only[RS.wf];omega);simpa only[RS.iv,RS.vv,Cx.more,if_true]using this
 ·cases he
def Aiw(i:TK)(h:Sto)(l m:RS):Option (RS×Sto):=match i.td with
 | .sl q eby ez _=>match eNat l,eNat m with
  |some l,some m=>gd (Nat.beq l m&&Nat.blt 0 q&&Nat.blt 0 eby&&ez.all Value.oneCell'&&Nat.ble (eby*m) 281474976710656) (match h.new (.rows q (List.replicate l (ez.map .v)) false)with
   |some (b,h')=>some (.row b l,h')
   |none=>none)
  |_,_=>none
 |_=>none
theorem Aix(hM:Mt σ0 c h σ){i:TK}{l m:RS}(he:Aiw i h l m=some (v,h'))(hk:Kt σ0 c h v h' k):Nz (some i) σ (l.iv c) (m.iv c) k:=by
 unfold Aiw at he;simp only[Nz];split at he
 ·rename_i q eby ez byt htd
  simp only[htd];split at he
  ·rename_i l' m' hl hm
   obtain⟨ik,rfl⟩:=Oa hl;obtain⟨ik',rfl⟩:=Oa hm;rw[Ak]at he;simp only[Bool.and_eq_true,A1,Be,Bz]at he;obtain⟨⟨⟨⟨⟨rfl,h1⟩,h2⟩,h3⟩,h4⟩,he⟩:=he;split at he
   ·rename_i b h5 hn
    injection he with he;injection he with h6 h7;subst h6;subst h7;have hi:=Vq hn;subst hi;simp only[RS.iv,RS.vv]
    refine⟨h1,h2,h3,by omega,by omega,by have:((eby*l':Nat):Int)≤281474976710656:=by omega
                                         simpa using this,fun bb hbb=>?_⟩
    have:=Kt.new (kk:=l') hM hn (Abm _ _ _) hbb (x:=.rows q (List.replicate l' (ez.map .v)) false l') (by simp only[io,Z8,Cx.more,if_true]) (by simp[SO.len]) hk (by simp only[RS.wf];omega);simpa only[RS.iv,RS.vv,Cx.more,if_true,Int.toNat_natCast]using this
   ·cases he
  ·cases he
 ·cases he
def eSrc(q:Nat)(byt:Bool)(h:Sto):RS→Option (List (List RS))
 | .sl q' es=>gd (Nat.beq q' q) (some es)
 | .fsl q' es=>gd (Nat.beq q' q) (some es)
 | .v (.slice none 0 0)=>some []
 | .v (.string s)=>gd (byt&&Nat.beq q 1) (some (s.data.toList.map Vv))
 | .row b n=>match h.get b with
  | .rows q' es _=>gd (Nat.beq q' q&&Nat.ble n es.length) (some (es.take n))
  |_=>none
 | .part b q1 l n=>match h.get b with
  | .rows q' es _=>gd (Nat.beq q' q&&Nat.beq q1 q&&Nat.blt 0 q&&Nat.ble (l+n) es.length) (some ((es.drop l).take n))
  |_=>none
 |_=>none
theorem Am0(hM:Mt σ0 c h σ){q:Nat}{byt:Bool}{x:RS}{es:List (List RS)}(hx:x.wf h.n)(he:eSrc q byt h x=some es):src q byt σ (x.iv c)=some (RS.ivss c es):=by
 unfold eSrc at he;split at he
 ·rw[Ak,A1]at he;obtain⟨rfl,he⟩:=he;injection he with he;subst he;simp only[RS.iv,src,if_true]
 ·rw[Ak,A1]at he;obtain⟨rfl,he⟩:=he;injection he with he;subst he;simp only[RS.iv,src,if_true]
 ·injection he with he;subst he;rfl
 ·rw[Ak,Bool.and_eq_true,A1]at he
  obtain⟨⟨h1,h2⟩,he⟩:=he;injection he with he;subst he;simp only[RS.iv,RS.vv,src,Aar];rw[if_pos ⟨h1,h2⟩]
 ·rename_i b n
  split at he
  ·rename_i q' es' frz hb
   rw[Ak,Bool.and_eq_true,A1,Bz]at he;obtain⟨⟨rfl,h1⟩,he⟩:=he;injection he with he;subst he;have hbn:b<h.n:=by simpa only[RS.wf]using hx
   have h2:=hM.ob b (.rows q' (RS.ivss c es') frz (c.k b)) hbn (by rw[hb];rfl);simp only[RS.iv,RS.vv,src,h2,Bu,←Hz,Nat.zero_mod,Nat.zero_div,Nat.zero_add,List.drop_zero];rw[if_pos ⟨trivial,trivial,h1⟩]
  ·cases he
 ·rename_i b q1 l n
  split at he
  ·rename_i q' es' frz hb
   simp only[Ak,Bool.and_eq_true,A1,Bz,Be]at he;obtain⟨⟨⟨⟨rfl,rfl⟩,hq⟩,h1⟩,he⟩:=he;injection he with he;subst he;have hbn:b<h.n:=by simpa only[RS.wf]using hx
   have h2:=hM.ob b (.rows q1 (RS.ivss c es') frz (c.k b)) hbn (by rw[hb];rfl);simp only[RS.iv,RS.vv,src,h2,Bu,←Hz,←Mh,Nat.mul_mod_left,Nat.mul_div_cancel _ hq];rw[if_pos ⟨trivial,trivial,h1⟩]
  ·cases he
 ·cases he
theorem Am1(hS:WfS h){q:Nat}{byt:Bool}{x:RS}{es:List (List RS)}(hx:x.wf h.n)(he:eSrc q byt h x=some es):RS.wfss h.n es:=by
 unfold eSrc at he;split at he
 ·rw[Ak]at he;have he:=he.2;injection he with he;subst he;simpa only[RS.wf]using hx
 ·rw[Ak]at he;have he:=he.2;injection he with he;subst he;simpa only[RS.wf]using hx
 ·injection he with he;subst he;simp only[RS.wfss]
 ·rw[Ak]at he;have he:=he.2;injection he with he;subst he;exact Aas _ _
 ·rename_i b n
  have hbn:b<h.n:=by simpa only[RS.wf]using hx
  have hw:=hS.ob b hbn;split at he
  ·rename_i q' es' frz hb
   rw[hb]at hw;rw[Ak]at he;have he:=he.2;injection he with he;subst he;exact J9 _ hw
  ·cases he
 ·rename_i b q1 l n
  have hbn:b<h.n:=by simpa only[RS.wf]using hx
  have hw:=hS.ob b hbn;split at he
  ·rename_i q' es' frz hb
   rw[hb]at hw;rw[Ak]at he;have he:=he.2;injection he with he;subst he;exact J9 _ (Ms _ hw)
  ·cases he
 ·cases he
end
section
variable{P:Program}{σ0 σ:St}{c c':Cx}{h h':Sto}{n:Nat}{fr:Tr RS}{v:RS}{K:AV→Prop}{k:AV→St→Prop}
def Ob(q:Nat)(es:List (List RS))(frz:Bool)(h:Sto):Option (RS×Sto):=match h.new (.rows q es frz)with
 |some (b,h')=>some (.row b es.length,h')
 |none=>none
theorem Nc(hM:Mt σ0 c h σ){q:Nat}{es:List (List RS)}{frz:Bool}(hw:RS.wfss h.n es)(he:Ob q es frz h=some (v,h'))(hk:Kt σ0 c h v h' k){bb cap:Nat}(hb:σ bb=none)(hc:es.length≤cap):
  k (.v (.slice (some ⟨bb,0,none⟩) es.length cap)) (σ.set bb (.rows q (RS.ivss c es) frz cap)):=by
 unfold Ob at he;split at he
 ·rename_i b h2 hn
  injection he with he;injection he with h1 h3;subst h1;subst h3;have hi:=Vq hn;subst hi;have:=Kt.new (kk:=cap) hM hn hw hb (x:=.rows q (RS.ivss c es) frz cap) (by simp only[io];rw[Ik (Im c h.n bb cap) _ hw];simp only[Cx.more,if_true]) (by simp only[SO.len];exact hc) hk (by simp only[RS.wf];omega);simpa only[RS.iv,RS.vv,Cx.more,if_true]using this
 ·cases he
def Aby(q eby:Nat)(ys:List (List RS))(h:Sto)(s:RS):Option (RS×Sto):=match s with
 | .v (.slice none 0 0)=>match ys with
  | []=>some (.v (.slice none 0 0),h)
  |y::l=>gd (Nat.ble ((y::l).length*eby) 140737488355328) (Ob q (y::l) false h)
 | .fsl q' es=>gd (Nat.beq q' q) (match ys with
  | []=>some (.fsl q es,h)
  |y::l=>gd (Nat.ble ((es.length+(y::l).length)*eby) 140737488355328) (Ob q (es++(y::l)) false h))
 | .row b n=>match h.get b with
  | .rows q' es frz=>gd (Nat.beq q' q&&Nat.ble ((n+ys.length)*eby) 140737488355328) (match Nat.beq n es.length with
   |true=>Ob q (es++ys) frz (h.put b .gone)
   |false=>match frz with
    |true=>none
    |false=>gd (Nat.ble (n+ys.length) es.length) (some (.row b (n+ys.length),h.put b (.rows q (es.take n++ys++es.drop (n+ys.length)) false))))
  |_=>none
 |_=>none
theorem Kt.of_put(hM:Mt σ0 c h σ){b:Nat}{o:SO}{v:RS}{h2:Sto}(hb:b<h.n)(hl:∀fr ps a b' st pend pls,h.get b≠.loop fr ps a b' st pend pls)(hg:h.get b≠.gone)(hk:Kt σ0 c h v h2 k):Kt σ0 c (h.put b o) v h2 k:=
 fun c' σ' h1 h2' h3 h4 h5=>hk c' σ' h1 h2' h3 ((K0.put hM.wf.lt hb (fun _ _ _ _ _ _ _ e=>absurd e (hl _ _ _ _ _ _ _)) (fun e=>absurd e hg)).trans h4 (Nat.le_refl _)) h5
theorem Agh(hM:Mt σ0 c h σ){q eby:Nat}{ys:List (List RS)}{s:RS}(hs:s.wf h.n)(hy:RS.wfss h.n ys)(he:Aby q eby ys h s=some (v,h'))(hk:Kt σ0 c h v h' k):Fy q eby (RS.ivss c ys) σ (s.iv c) k:=by
 unfold Aby at he;split at he
 ·simp only[RS.iv,RS.vv,Fy]
  split at he
  ·injection he with he
   injection he with h1 h2;subst h1;subst h2;have:=hk.same hM (by simp only[RS.wf]);exact⟨fun _=>by simpa only[RS.iv,RS.vv]using this,fun h=>absurd rfl h⟩
  ·rename_i y l
   rw[Ak,Bz]at he;refine⟨(fun h=>by simp only[RS.ivss]at h;cases h),fun _=>⟨by rw[Bu];exact he.1,fun b cap hb hc=>?_⟩⟩;rw[Bu]at hc⊢;exact Nc hM hy he.2 hk hb hc
 ·rename_i q' es
  rw[Ak,A1]at he;obtain⟨rfl,he⟩:=he;simp only[RS.iv,Fy];have hes:RS.wfss h.n es:=by simpa only[RS.wf]using hs
  split at he
  ·injection he with he
   injection he with h1 h2;subst h1;subst h2;have:=hk.same hM (by simpa only[RS.wf]using hes);exact⟨trivial,fun _=>by simpa only[RS.iv]using this,fun h=>absurd rfl h⟩
  ·rename_i y l
   rw[Ak,Bz]at he;refine⟨trivial,(fun h=>by simp only[RS.ivss]at h;cases h),fun _=>⟨by rw[Bu,Bu];exact he.1,fun b cap hb hc=>?_⟩⟩;have:=Nc (bb:=b) (cap:=cap) hM (J8 hes hy) he.2 hk hb (by rw[List.length_append];rwa[Bu,Bu]at hc);rw[Lo,List.length_append]at this;rw[Bu,Bu];exact this
 ·rename_i b n
  have hb:b<h.n:=by simpa only[RS.wf]using hs
  split at he
  ·rename_i q' es frz hg
   rw[Ak,Bool.and_eq_true,A1,Bz]at he;obtain⟨⟨rfl,hbd⟩,he⟩:=he;have hw:=hM.wf.ob b hb;have hcap:=hM.cap b hb;have hne:h.get b≠.gone:=by rw[hg];intro e;cases e
   have hob:=hM.ob b (.rows q' (RS.ivss c es) frz (c.k b)) hb (by rw[hg];rfl);rw[hg]at hw hcap;simp only[SO.len]at hcap;simp only[RS.iv,RS.vv,Fy];split at he
   ·rename_i hn
    rw[A1]at hn;subst hn;refine .inr (.inl ⟨trivial,?_⟩);simp only[hob,Bu];refine⟨trivial,trivial,trivial,hbd,fun b' cap' hb' hc'=>?_⟩;have:=Nc (bb:=b') (cap:=cap') (hM.del hb hne) (J8 hw hy) he (Kt.of_put hM hb (by rw[hg];intro _ _ _ _ _ _ _ e;cases e) hne hk) hb' (by rw[List.length_append];exact hc');rw[Lo,List.length_append]at this;exact this
   ·split at he
    ·cases he
    ·rw[Ak,Bz]at he
     obtain⟨hle,he⟩:=he;injection he with he;injection he with h1 h2;subst h1;subst h2;refine .inr (.inr (.inl ⟨trivial,?_⟩));simp only[hob,Bu];refine⟨trivial,by omega,trivial,by omega,hbd,?_⟩;have hl2:(es.take n++ys++es.drop (n+ys.length)).length=es.length:=by simp;omega
     have hM2:=hM.put (o:=.rows q' (es.take n++ys++es.drop (n+ys.length)) false) (x:=.rows q' ((RS.ivss c es).take n++RS.ivss c ys++(RS.ivss c es).drop (n+ys.length)) false (c.k b)) hb hne
      (by simp only[io,Lo,Hz,Mh]) (J8 (J8 (J9 _ hw) hy) (Ms _ hw)) (by simp only[SO.len,hl2];exact hcap)
     have:=hk c _ (.refl _ _) hM2 (Nat.le_refl _) (.put hM.wf.lt hb (by rw[hg];intro _ _ _ _ _ _ _ e;cases e) (by rw[hg];intro e;cases e)) (by simp only[RS.wf];exact hb);simpa only[RS.iv,RS.vv]using this
  ·cases he
 ·cases he
def eApp(i:TK)(h:Sto)(s x:RS):Option (RS×Sto):=match i.td with
 | .sl q eby ez byt=>gd (Nat.blt 0 q&&Nat.blt 0 eby&&ez.all Value.oneCell') (match eSrc q byt h x with
  |some ys=>Aby q eby ys h s
  |none=>none)
 |_=>none
theorem Amg(hM:Mt σ0 c h σ){i:TK}{s x:RS}(hs:s.wf h.n)(hx:x.wf h.n)(he:eApp i h s x=some (v,h'))(hk:Kt σ0 c h v h' k):aApp (some i) σ (s.iv c) (x.iv c) k:=by
 unfold eApp at he;simp only[aApp];split at he
 ·rename_i q eby ez byt htd
  simp only[htd];rw[Ak,Bool.and_eq_true,Bool.and_eq_true,Be,Be]at he;obtain⟨⟨⟨h1,h2⟩,h3⟩,he⟩:=he;split at he
  ·rename_i ys hys
   exact⟨h1,h2,h3,_,Am0 hM hx hys,Agh hM hs (Am1 hM.wf hx hys) he hk⟩
  ·cases he
 ·cases he
def eClr(q:Nat)(ez:List Value)(h:Sto)(b l n:Nat):Option (RS×Sto):=match h.get b with
 | .rows q' es false=>gd (Nat.beq q' q&&Nat.blt 0 q&&Nat.ble (l+n) es.length&&Nat.blt 0 n&&ez.all Value.oneCell') (some (.tup [],h.put b (.rows q (es.take l++List.replicate n (ez.map .v)++es.drop (l+n)) false)))
 |_=>none
def Ab1(i:TK)(h:Sto)(x:RS):Option (RS×Sto):=match i.td with
 | .sl q _ ez _=>match x with
  | .v (.slice none _ _)=>some (.tup [],h)
  | .row b n=>eClr q ez h b 0 n
  | .part b q1 l n=>gd (Nat.beq q1 q) (eClr q ez h b l n)
  |_=>none
 |_=>none
theorem Agz(c:Cx)(n:Nat)(ez:List Value):RS.ivss c (List.replicate n (ez.map .v))=List.replicate n (ez.map AV.v):=by
 rw[Cq,List.map_replicate,Tp]
theorem Aej(hM:Mt σ0 c h σ){q b l n p cc:Nat}{ez:List Value}(hb:b<h.n)(hp:p=l*q)(he:eClr q ez h b l n=some (v,h'))(hk:Kt σ0 c h v h' k){ag byt:Bool}{sz eby:Nat}{zr:List Value}:
  aClear (some ⟨ag,sz,zr,.sl q eby ez byt⟩) σ (.v (.slice (some ⟨c.r b,p,none⟩) n cc)) k:=by
 unfold eClr at he;split at he
 ·rename_i q' es hg
  simp only[Ak,Bool.and_eq_true,A1,Be,Bz]at he;obtain⟨⟨⟨⟨⟨rfl,h1⟩,h2⟩,h3⟩,h4⟩,he⟩:=he;injection he with he;injection he with he1 he2;subst he1;subst he2;subst hp;have h5:io c b (h.get b)=some (.rows q' (RS.ivss c es) false (c.k b)):=by rw[hg];rfl
  have h6:=hM.ob b _ hb h5;have hw:=hM.wf.ob b hb;have hcap:=hM.cap b hb;rw[hg]at hw hcap;simp only[SO.len]at hcap;simp only[aClear];rw[if_neg (by omega)];simp only[h6,Nat.mul_div_cancel _ h1,Bu];refine⟨trivial,h1,Nat.mul_mod_left _ _,h2,h4,?_⟩;have e:RS.ivss c (es.take l++List.replicate n (ez.map .v)++es.drop (l+n))=(RS.ivss c es).take l++List.replicate n (ez.map AV.v)++(RS.ivss c es).drop (l+n):=by
   rw[Lo,Lo,Hz,Mh,Agz]
  have hz:RS.wfss h.n (List.replicate n (ez.map RS.v)):=Dc.2 fun x hx=>by
   rw[(List.mem_replicate.1 hx).2];exact Us _ _
  have hM':Mt σ0 c (h.put b (.rows q' (es.take l++List.replicate n (ez.map .v)++es.drop (l+n)) false)) (σ.set (c.r b) (.rows q' ((RS.ivss c es).take l++List.replicate n (ez.map AV.v)++(RS.ivss c es).drop (l+n)) false (c.k b))):=
   hM.put hb (by rw[hg];intro e;cases e) (by simp only[io,e]) (J8 (J8 (J9 _ hw) hz) (Ms _ hw)) (by simp only[SO.len,List.length_append,List.length_take,List.length_replicate,List.length_drop];omega)
  have:=hk c _ (.refl _ _) hM' (Nat.le_refl _) (.put hM.wf.lt hb (by rw[hg];intro _ _ _ _ _ _ _ e;cases e) (by rw[hg];intro e;cases e)) (by simp only[RS.wf,RS.wfs]);simpa only[RS.iv,RS.ivs]using this
 ·cases he
theorem Agk(hM:Mt σ0 c h σ){i:TK}{x:RS}(hx:x.wf h.n)(he:Ab1 i h x=some (v,h'))(hk:Kt σ0 c h v h' k):aClear (some i) σ (x.iv c) k:=by
 obtain⟨ag,sz,zr,td⟩:=i;unfold Ab1 at he;simp only at he;split at he
 ·split at he
  ·injection he with he
   injection he with he1 he2;subst he1;subst he2;have:=hk c _ (.refl _ _) hM (Nat.le_refl _) (.refl h) (by simp only[RS.wf,RS.wfs]);simpa only[RS.iv,RS.vv,RS.ivs,aClear]using this
  ·rename_i b n
   simp only[RS.wf]at hx;simp only[RS.iv,RS.vv];exact Aej hM hx (p:=0) (by omega) he hk
  ·rename_i b q1 l n
   simp only[RS.wf]at hx;rw[Ak,A1]at he;obtain⟨rfl,he⟩:=he;simp only[RS.iv,RS.vv];exact Aej hM hx rfl he hk
  ·cases he
 ·cases he
structure En where
 ty:Tr TE
 cl:FuncId→List RS→Sto→Option (RS×Sto)
 yl:Nat→List RS→Sto→Option (RS×Sto)
 idle:FuncId→Bool
def En.te(E:En)(t:TypeId):Option TE:=gd (Nat.blt t 1024) (E.ty.get 10 t)
structure Pz(P:Program)(E:En):Prop where
 ty:∀t e,E.te t=some e→Gl P t e
 cl:∀(f:FuncId) (as:List RS) (h:Sto) (v:RS) (h':Sto),E.cl f as h=some (v,h')→∀σ0 c σ k,Mt σ0 c h σ→RS.wfs h.n as→Kt σ0 c h v h' k→AT P f (RS.ivs c as) σ k
 yl:∀(l:Nat) (as:List RS) (h:Sto) (v:RS) (h':Sto),E.yl l as h=some (v,h')→∀σ0 c σ k,Mt σ0 c h σ→RS.wfs h.n as→l<h.n→Kt σ0 c h v h' k→YC P (c.r l) (RS.ivs c as) σ k
 idle:∀f,E.idle f=true→(∃fn,P.funcs[f]? =some fn∧fn.body.isSome=true∧fn.name≠ "runtime.NumGoroutine")∧∀vs,Ym P f vs
def oOpd(fr:Tr RS):Option Operand→Option (Option RS)
 |none=>some none
 |some x=>match eEv fr x with
  |some v=>some (some v)
  |none=>none
def Ez(h:Sto):Option RS→Option (RS×Sto)
 |some v=>some (v,h)
 |none=>none
def Aii(E:En)(c:Call)(fr:Tr RS)(h:Sto):Option (RS×Sto):=match S6 fr c.args.toList with
 |none=>none
 |some as=>match c.callee with
  | .value (.func f)=>E.cl f as h
  | .value (.tmp t)=>match eEv fr (.tmp t)with
   |some (.fn f fi ca)=>gd (fi.all RS.isV&&ca.all RS.isV) (E.cl f (fi++as++ca) h)
   |some (.yld l)=>E.yl l as h
   |_=>none
  | .builtin .len=>match as,c.argTypes.toList with
   | [x],[t]=>match E.te t with
    |some te=>Ez h (eLen te.k x)
    |none=>none
   |_,_=>none
  | .builtin .append=>match as,c.argTypes.toList with
   | [s,x],[t1,t2]=>match E.te t1,E.te t2 with
    |some e1,some e2=>match Np (some e2.k)with
     |true=>eApp e1.k h s x
     |false=>none
    |_,_=>none
   |_,_=>none
  | .builtin .clear=>match as,c.argTypes.toList with
   | [x],[t]=>match E.te t with
    |some te=>Ab1 te.k h x
    |none=>none
   |_,_=>none
  |_=>none
def eOp(E:En)(o:Op)(fr:Tr RS)(h:Sto):Option (RS×Sto):=match o with
 | .move x=>Ez h (eEv fr x)
 | .assign x=>Ez h (eEv fr x)
 | .pick c x y=>match eEv fr c,eEv fr x,eEv fr y with
  |some c,some x,some y=>Ez h (Zm c x y)
  |_,_,_=>none
 | .alloc t=>match E.te t with
  |some te=>Abx te.k h
  |none=>none
 | .box _ x=>match eEv fr x with
  |some x=>eBox x h
  |none=>none
 | .build t ps=>match E.te t,eEvp fr ps.toList with
  |some te,some vs=>Ez h (S5 te.k vs)
  |_,_=>none
 | .buildSlice t n ps=>match E.te t,eEvp fr ps.toList with
  |some te,some vs=>Ez h (N7 te.k n vs)
  |_,_=>none
 | .load t x=>match E.te t,eEv fr x with
  |some te,some x=>Ez h (N9 te.k h x)
  |_,_=>none
 | .store t x y=>match E.te t,eEv fr x,eEv fr y with
  |some te,some x,some y=>match Ab3 te.k h x y with
   |some h'=>some (.v undef,h')
   |none=>none
  |_,_,_=>none
 | .nilCheck x=>match eEv fr x with
  |some x=>Ez h (eNil x)
  |none=>none
 | .binOp op t x y _=>match E.te t,eEv fr x,eEv fr y with
  |some te,some x,some y=>Ez h (eBin op te x y)
  |_,_,_=>none
 | .unOp op _ x=>match eEv fr x with
  |some x=>Ez h (eUn op x)
  |none=>none
 | .convert s d x=>match E.te s,E.te d,eEv fr x with
  |some i,some j,some x=>Aik i.k j.k h x
  |_,_,_=>none
 | .makeFunc fn fi ca=>match S6 fr fi.toList,S6 fr ca.toList with
  |some fi,some ca=>Ez h (Zj fn fi ca)
  |_,_=>none
 | .slice t x lo hi mx=>match E.te t,eEv fr x,oOpd fr lo,oOpd fr hi,oOpd fr mx with
  |some te,some x,some lo,some hi,some mx=>Ez h (eSli te.k h x lo hi mx)
  |_,_,_,_,_=>none
 | .fieldAddr s x f=>match E.te s,eEv fr x with
  |some te,some x=>Ez h (Zi te.k f x)
  |_,_=>none
 | .field s x f=>match E.te s,eEv fr x with
  |some te,some x=>Ez h (eFld te.k f x)
  |_,_=>none
 | .indexAddr t x ix=>match E.te t,eEv fr x,eEv fr ix with
  |some te,some x,some ix=>Ez h (Zk te.k x ix)
  |_,_,_=>none
 | .index t x ix=>match E.te t,eEv fr x,eEv fr ix with
  |some te,some x,some ix=>Ez h (eIdx te.k x ix)
  |_,_,_=>none
 | .extract x j=>match eEv fr x with
  |some x=>Ez h (eExt x j)
  |none=>none
 | .call c=>Aii E c fr h
 | .makeSlice t l m=>match E.te t,eEv fr l,eEv fr m with
  |some te,some l,some m=>Aiw te.k h l m
  |_,_,_=>none
 | .makeInterface t x=>match E.te t,eEv fr x with
  |some te,some x=>Ez h (eMkI te t x)
  |_,_=>none
 | .typeAssert x _ u false=>match E.te u,eEv fr x with
  |some te,some x=>Ez h (eTyA te u x)
  |_,_=>none
 | .defer c=>match c.callee,c.args.toList with
  | .value (.tmp t),[]=>match eEv fr (.tmp t)with
   |some (.fn f _ _)=>gd (E.idle f) (some (.v undef,h))
   |_=>none
  |_,_=>none
 |_=>none
theorem Bl{x:Option RS}(he:Ez h x=some (v,h')):x=some v∧h'=h:=by
 cases x with
 |none=>cases he
 |some y=>simp only[Ez,Option.some.injEq,Prod.mk.injEq]at he;exact⟨by rw[he.1],he.2.symm⟩
theorem Xl{x:Option Operand}{y:Option RS}(he:oOpd fr x=some y):x.map (ifr c fr).ev=y.map (RS.iv c):=by
 cases x with
 |none=>simp only[oOpd,Option.some.injEq]at he;subst he;rfl
 |some x=>
  simp only[oOpd]at he;split at he
  ·rename_i v hv
   injection he with he;subst he;simp only[Option.map_some,Bh hv]
  ·cases he
theorem Aij{E:En}(hE:Pz P E)(hM:Mt σ0 c h σ)(hf:wfr h.n fr){cc:Call}(he:Aii E cc fr h=some (v,h'))(hk:Kt σ0 c h v h' k):Ff P cc (ifr c fr) σ k:=by
 obtain⟨callee,args,ts⟩:=cc;unfold Aii at he;simp only at he;split at he
 ·cases he
 ·rename_i as has
  have hav:args.toList.map (ifr c fr).ev=RS.ivs c as:=by rw[Rw has,Di]
  have haw:=Rx hf has;split at he
  ·simp only[Ff]
   rw[hav];exact hE.cl _ _ _ _ _ he σ0 c σ k hM haw hk
  ·rename_i t
   simp only[Ff];rw[hav];split at he
   ·rename_i f fi ca hx
    have h1:=Bh (c:=c) hx;have h2:=Cl hf hx;simp only[RS.wf]at h2;rw[Ak,Bool.and_eq_true]at he;have:=hE.cl _ _ _ _ _ he.2 σ0 c σ k hM (Mr (Mr h2.1 haw) h2.2) hk;simp only[Fr.ev,RS.iv,RS.vv]at h1;rw[h1];have e:∀l:List RS,l.all RS.isV=true→(RS.vvs c l).map AV.v=RS.ivs c l:=fun l hl=>by
     rw[Yh,Di,List.map_map];exact List.map_congr_left fun x hx=>(Ij (List.all_eq_true.1 hl x hx)).symm
    simp only[Kb,e fi he.1.1,e ca he.1.2,←Oq];exact this
   ·rename_i l hx
    have h1:=Bh (c:=c) hx;have h2:=Cl hf hx;simp only[RS.wf]at h2;simp only[Fr.ev,RS.iv,RS.vv]at h1;rw[h1];exact⟨rfl,rfl,hE.yl _ _ _ _ _ he σ0 c σ k hM haw h2 hk⟩
   ·cases he
  ·split at he
   ·rename_i x t hts
    split at he
    ·rename_i te hte
     obtain⟨hq,rfl⟩:=Bl he
     replace he:=hq
     obtain⟨x1,hx1⟩:∃x1,args.toList=[x1]:=by
      match hl:args.toList,has with
      | [x1],_=>exact⟨x1,rfl⟩
      | [],has=>simp[S6]at has
      |a::b::l,has=>
       have:=congrArg List.length hav;rw[hl,List.length_map,Db]at this;simp at this
     rw[hx1]at hav;simp only[List.map_cons,List.map_nil,RS.ivs,List.cons.injEq,and_true]at hav;simp only[Ff,hx1,hts,(hE.ty _ _ hte).k,hav];exact Amt he (hk.same hM (Amu he))
    ·cases he
   ·cases he
  ·split at he
   ·rename_i s x t1 t2 hts
    split at he
    ·rename_i e1 e2 ht1 ht2
     split at he
     ·rename_i hni
      obtain⟨x1,x2,hx1⟩:∃x1 x2,args.toList=[x1,x2]:=by
       have:=congrArg List.length hav;rw[List.length_map,Db]at this
       match hl:args.toList with
       | [x1,x2]=>exact⟨x1,x2,rfl⟩
       | []=>rw[hl]at this;simp at this
       | [_]=>rw[hl]at this;simp at this
       |_::_::_::_=>rw[hl]at this;simp at this
      rw[hx1]at hav;simp only[List.map_cons,List.map_nil,RS.ivs,List.cons.injEq,and_true]at hav;simp only[RS.wfs,and_true]at haw;simp only[Ff,hx1,hts,(hE.ty _ _ ht1).k,(hE.ty _ _ ht2).k,hav.1,hav.2];rw[if_pos hni];exact Amg hM haw.1 haw.2 he hk
     ·cases he
    ·cases he
   ·cases he
  ·split at he
   ·rename_i x t hts
    split at he
    ·rename_i te hte
     obtain⟨x1,hx1⟩:∃x1,args.toList=[x1]:=by
      have:=congrArg List.length hav;rw[List.length_map,Db]at this
      match hl:args.toList with
      | [x1]=>exact⟨x1,rfl⟩
      | []=>rw[hl]at this;simp at this
      |_::_::_=>rw[hl]at this;simp at this
     rw[hx1]at hav;simp only[List.map_cons,List.map_nil,RS.ivs,List.cons.injEq,and_true]at hav;simp only[RS.wfs,and_true]at haw;simp only[Ff,aBI,hx1,hts,List.map_cons,List.map_nil,(hE.ty _ _ hte).k,hav];exact Agk hM haw he hk
    ·cases he
   ·cases he
  ·cases he
theorem W3{E:En}(hE:Pz P E)(hM:Mt σ0 c h σ)(hf:wfr h.n fr){o:Op}(he:eOp E o fr h=some (v,h'))(hk:Kt σ0 c h v h' k):aOp P o (ifr c fr) σ k:=by
 cases o with
 |move x=>
  obtain⟨hq,rfl⟩:=Bl he
  replace he:=hq
  simp only[aOp,Bh he];exact hk.same hM (Cl hf he)
 |assign x=>
  obtain⟨hq,rfl⟩:=Bl he
  replace he:=hq
  simp only[aOp,Bh he];exact hk.same hM (Cl hf he)
 |pick p x y=>
  simp only[eOp]at he;split at he
  ·rename_i p' x' y' h1 h2 h3
   obtain⟨hq,rfl⟩:=Bl he
   replace he:=hq
   simp only[aOp,Bh h1,Bh h2,Bh h3];exact Aiy he (hk.same hM (Aiz (Cl hf h2) (Cl hf h3) he))
  ·cases he
 |alloc t=>
  simp only[eOp]at he;split at he
  ·rename_i te hte
   simp only[aOp,(hE.ty _ _ hte).k];exact Agg hM he hk
  ·cases he
 |box t x=>
  simp only[eOp]at he;split at he
  ·rename_i x' h1
   simp only[aOp,Bh h1];exact Amj hM (Cl hf h1) he hk
  ·cases he
 |build t ps=>
  simp only[eOp]at he;split at he
  ·rename_i te vs hte h1
   obtain⟨hq,rfl⟩:=Bl he
   replace he:=hq
   simp only[aOp,(hE.ty _ _ hte).k,Wy h1];exact Agi hM.a he (hk.same hM (Agj (Wz hf h1) he))
  ·cases he
 |buildSlice t m ps=>
  simp only[eOp]at he;split at he
  ·rename_i te vs hte h1
   obtain⟨hq,rfl⟩:=Bl he
   replace he:=hq
   simp only[aOp,(hE.ty _ _ hte).k,Wy h1];exact Abz hM.a he (hk.same hM (Ab0 (Wz hf h1) he))
  ·cases he
 |load t x=>
  simp only[eOp]at he;split at he
  ·rename_i te x' hte h1
   obtain⟨hq,rfl⟩:=Bl he
   replace he:=hq
   simp only[aOp,(hE.ty _ _ hte).k,Bh h1];exact Ais hM (Cl hf h1) he (hk.same hM (Ait hM.wf (Cl hf h1) he))
  ·cases he
 |store t x y=>
  simp only[eOp]at he;split at he
  ·rename_i te x' y' hte h1 h2
   split at he
   ·rename_i h2' hst
    injection he with he;injection he with h3 h4;subst h3;subst h4;simp only[aOp,(hE.ty _ _ hte).k,Bh h1,Bh h2];refine Agm hM (Cl hf h1) (Cl hf h2) hst fun σ' hn hkp hM'=>?_;have:=hk c σ' (.refl _ _) hM' (by omega) hkp (by simp only[RS.wf]);simpa only[RS.iv,RS.vv]using this
   ·cases he
  ·cases he
 |nilCheck x=>
  simp only[eOp]at he;split at he
  ·rename_i x' h1
   obtain⟨hq,rfl⟩:=Bl he
   replace he:=hq
   simp only[aOp,Bh h1];exact Amw he (hk.same hM (Amx (Cl hf h1) he))
  ·cases he
 |binOp op t x y ty=>
  simp only[eOp]at he;split at he
  ·rename_i te x' y' hte h1 h2
   obtain⟨hq,rfl⟩:=Bl he
   replace he:=hq
   simp only[aOp,Bh h1,Bh h2];exact Amh (hE.ty _ _ hte) he (hk.same hM (Ami he))
  ·cases he
 |unOp op t x=>
  simp only[eOp]at he;split at he
  ·rename_i x' h1
   obtain⟨hq,rfl⟩:=Bl he
   replace he:=hq
   simp only[aOp,Bh h1];exact Aq5 he (hk.same hM (Aq6 he))
  ·cases he
 |convert s d x=>
  simp only[eOp]at he;split at he
  ·rename_i i j x' hi hj h1
   simp only[aOp,(hE.ty _ _ hi).k,(hE.ty _ _ hj).k,Bh h1];exact Ail hM (Cl hf h1) he hk
  ·cases he
 |makeFunc fn fi ca=>
  simp only[eOp]at he;split at he
  ·rename_i fi' ca' h1 h2
   obtain⟨hq,rfl⟩:=Bl he
   replace he:=hq
   simp only[aOp];exact Aio (Rw h1) (Rw h2) he (hk.same hM (Aip (Rx hf h1) (Rx hf h2) he))
  ·cases he
 |slice t x lo hi mx=>
  simp only[eOp]at he;split at he
  ·rename_i te x' lo' hi' mx' hte h1 h2 h3 h4
   obtain⟨hq,rfl⟩:=Bl he
   replace he:=hq
   simp only[aOp,(hE.ty _ _ hte).k,Bh h1,Xl h2,Xl h3,Xl h4];exact Amy hM (Cl hf h1) he (hk.same hM (Amz (Cl hf h1) he))
  ·cases he
 |fieldAddr s x f=>
  simp only[eOp]at he;split at he
  ·rename_i te x' hte h1
   obtain⟨hq,rfl⟩:=Bl he
   replace he:=hq
   simp only[aOp,(hE.ty _ _ hte).k,Bh h1];exact Aim he (hk.same hM (Ain (Cl hf h1) he))
  ·cases he
 |field s x f=>
  simp only[eOp]at he;split at he
  ·rename_i te x' hte h1
   obtain⟨hq,rfl⟩:=Bl he
   replace he:=hq
   simp only[aOp,(hE.ty _ _ hte).k,Bh h1];exact Amn he (hk.same hM (Amo (Cl hf h1) he))
  ·cases he
 |indexAddr t x ix=>
  simp only[eOp]at he;split at he
  ·rename_i te x' y' hte h1 h2
   obtain⟨hq,rfl⟩:=Bl he
   replace he:=hq
   simp only[aOp,(hE.ty _ _ hte).k,Bh h1,Bh h2];exact Aiq he (hk.same hM (Air (Cl hf h1) he))
  ·cases he
 |index t x ix=>
  simp only[eOp]at he;split at he
  ·rename_i te x' y' hte h1 h2
   obtain⟨hq,rfl⟩:=Bl he
   replace he:=hq
   simp only[aOp,(hE.ty _ _ hte).k,Bh h1,Bh h2];exact Amq he (hk.same hM (Amr (Cl hf h1) he))
  ·cases he
 |extract x j=>
  simp only[eOp]at he;split at he
  ·rename_i x' h1
   obtain⟨hq,rfl⟩:=Bl he
   replace he:=hq
   simp only[aOp,Bh h1];exact Aml he (hk.same hM (Amm (Cl hf h1) he))
  ·cases he
 |call cc=>exact Aij hE hM hf he hk
 |makeSlice t l m=>
  simp only[eOp]at he;split at he
  ·rename_i te x' y' hte h1 h2
   simp only[aOp,Dq,(hE.ty _ _ hte).k,Bh h1,Bh h2];exact Aix hM he hk
  ·cases he
 |makeInterface t x=>
  simp only[eOp]at he;split at he
  ·rename_i te x' hte h1
   obtain⟨hq,rfl⟩:=Bl he
   replace he:=hq
   simp only[aOp,Dq,Bh h1];refine Amv (hE.ty _ _ hte) he (hk.same hM ?_);unfold eMkI at he;rw[Ak]at he;have h2:=he.2;injection h2 with h2;subst h2;simpa only[RS.wf]using Cl hf h1
  ·cases he
 |typeAssert x t u ok=>
  cases ok with
  |true=>cases he
  |false=>
   simp only[eOp]at he;split at he
   ·rename_i te x' hte h1
    obtain⟨hq,rfl⟩:=Bl he
    replace he:=hq
    simp only[aOp,Dq,Bh h1];refine Am3 (hE.ty _ _ hte) he (hk.same hM ?_);have hw:=Cl hf h1;unfold eTyA at he;split at he
    ·rw[Ak]at he
     have h2:=he.2;injection h2 with h2;subst h2;simpa only[RS.wf]using hw
    ·cases he
   ·cases he
 |defer cc=>
  obtain⟨callee,args,ts⟩:=cc;simp only[eOp]at he;split at he
  ·rename_i t ha
   split at he
   ·rename_i f fi ca h1
    rw[Ak]at he;obtain⟨hi,he⟩:=he;injection he with he;injection he with h3 h4;subst h3;subst h4;have h5:=Bh (c:=c) h1;simp only[Fr.ev,RS.iv,RS.vv]at h5;simp only[aOp,Dq,P5,ha,h5];have h6:=hE.idle f hi;have:=hk.same hM (by simp only[RS.wf]);exact⟨h6.1,h6.2 _,by simpa only[RS.iv,RS.vv]using this⟩
   ·cases he
  ·cases he
 |_=>cases he
end
def Alk:Value→Value→Bool
 | .int k x,.int k' y=>decide (k=k')&&ieq x y
 | .bool a,.bool b=>match a with
  |true=>b
  |false=>!b
 | .string x,.string y=>Rm x.data.toList y.data.toList
 | .pointer none,.pointer none=>true
 | .slice none 0 0,.slice none 0 0=>true
 | .nilFunc,.nilFunc=>true
 | .nilIface,.nilIface=>true
 | .map none,.map none=>true
 |_,_=>false
theorem Alm{x y:Value}(h:Alk x y=true):x=y:=by
 unfold Alk at h;split at h
 ·rw[Bool.and_eq_true,Qp]at h
  rw[of_decide_eq_true h.1,of_decide_eq_true h.2]
 ·rename_i a b;cases a<;>cases b<;>first|rfl|cases h
 ·rw[Sg,←Adx]at h;rw[h]
 ·rfl
 ·rfl
 ·rfl
 ·rfl
 ·rfl
 ·cases h
mutual
def RS.beq:RS→RS→Bool
 | .v x,.v y=>Alk x y
 | .opq i,.opq j=>Nat.beq i j
 | .ptr i o,.ptr j p=>Nat.beq i j&&Nat.beq o p
 | .rp i k j f,.rp i' k' j' f'=>Nat.beq i i'&&Nat.beq k k'&&Nat.beq j j'&&Nat.beq f f'
 | .row i n,.row j m=>Nat.beq i j&&Nat.beq n m
 | .part i q l n,.part i' q' l' n'=>Nat.beq i i'&&Nat.beq q q'&&Nat.beq l l'&&Nat.beq n n'
 | .sl k es,.sl k' es'=>Nat.beq k k'&&RS.beqss es es'
 | .fsl k es,.fsl k' es'=>Nat.beq k k'&&RS.beqss es es'
 | .fp cs,.fp cs'=>RS.beqs cs cs'
 | .agg cs,.agg cs'=>RS.beqs cs cs'
 | .tup cs,.tup cs'=>RS.beqs cs cs'
 | .fn f a b,.fn f' a' b'=>Nat.beq f f'&&RS.beqs a a'&&RS.beqs b b'
 | .yld l,.yld l'=>Nat.beq l l'
 | .ifc t x,.ifc t' x'=>Nat.beq t t'&&RS.beq x x'
 | .mp i,.mp j=>Nat.beq i j
 |_,_=>false
def RS.beqs:List RS→List RS→Bool
 | [],[]=>true
 |x::l,y::m=>RS.beq x y&&RS.beqs l m
 |_,_=>false
def RS.beqss:List (List RS)→List (List RS)→Bool
 | [],[]=>true
 |x::l,y::m=>RS.beqs x y&&RS.beqss l m
 |_,_=>false
end
mutual
theorem Xt:∀{x y:RS},RS.beq x y=true→x=y
 | .v x,y,h=>by cases y<;>simp only[RS.beq,Bool.false_eq_true]at h;rw[Alm h]
 | .opq i,y,h=>by cases y<;>simp only[RS.beq,Bool.false_eq_true,A1]at h;rw[h]
 | .ptr i o,y,h=>by cases y<;>simp only[RS.beq,Bool.false_eq_true,Bool.and_eq_true,A1]at h;rw[h.1,h.2]
 | .rp i k j f,y,h=>by cases y<;>simp only[RS.beq,Bool.false_eq_true,Bool.and_eq_true,A1]at h;rw[h.1.1.1,h.1.1.2,h.1.2,h.2]
 | .row i n,y,h=>by cases y<;>simp only[RS.beq,Bool.false_eq_true,Bool.and_eq_true,A1]at h;rw[h.1,h.2]
 | .part i q l n,y,h=>by cases y<;>simp only[RS.beq,Bool.false_eq_true,Bool.and_eq_true,A1]at h;rw[h.1.1.1,h.1.1.2,h.1.2,h.2]
 | .mt i p q,y,h=>by cases y<;>simp only[RS.beq,Bool.false_eq_true]at h
 | .sl k es,y,h=>by cases y<;>simp only[RS.beq,Bool.false_eq_true,Bool.and_eq_true,A1]at h;rw[h.1,Qw h.2]
 | .fsl k es,y,h=>by cases y<;>simp only[RS.beq,Bool.false_eq_true,Bool.and_eq_true,A1]at h;rw[h.1,Qw h.2]
 | .fp cs,y,h=>by cases y<;>simp only[RS.beq,Bool.false_eq_true]at h;rw[Is h]
 | .agg cs,y,h=>by cases y<;>simp only[RS.beq,Bool.false_eq_true]at h;rw[Is h]
 | .tup cs,y,h=>by cases y<;>simp only[RS.beq,Bool.false_eq_true]at h;rw[Is h]
 | .fn f a b,y,h=>by cases y<;>simp only[RS.beq,Bool.false_eq_true,Bool.and_eq_true,A1]at h;rw[h.1.1,Is h.1.2,Is h.2]
 | .yld l,y,h=>by cases y<;>simp only[RS.beq,Bool.false_eq_true,A1]at h;rw[h]
 | .ifc t x,y,h=>by cases y<;>simp only[RS.beq,Bool.false_eq_true,Bool.and_eq_true,A1]at h;rw[h.1,Xt h.2]
 | .mp i,y,h=>by cases y<;>simp only[RS.beq,Bool.false_eq_true,A1]at h;rw[h]
theorem Is:∀{x y:List RS},RS.beqs x y=true→x=y
 | [],y,h=>by cases y<;>simp only[RS.beqs,Bool.false_eq_true]at h;rfl
 |x::l,y,h=>by cases y<;>simp only[RS.beqs,Bool.false_eq_true,Bool.and_eq_true]at h;rw[Xt h.1,Is h.2]
theorem Qw:∀{x y:List (List RS)},RS.beqss x y=true→x=y
 | [],y,h=>by cases y<;>simp only[RS.beqss,Bool.false_eq_true]at h;rfl
 |x::l,y,h=>by cases y<;>simp only[RS.beqss,Bool.false_eq_true,Bool.and_eq_true]at h;rw[Is h.1,Qw h.2]
end
section
variable{P:Program}{σ0 σ:St}{c c':Cx}{h h':Sto}{n:Nat}{fr fr':Tr RS}{v:RS}
def Od(fr:Tr RS)(d:Option Nat)(v:RS):Option (Tr RS):=match d with
 |some t=>gd (Nat.blt t 1024) (some (fr.set 10 t v))
 |none=>some fr
theorem Kk{d:Option Nat}(he:Od fr d v=some fr'):ifr c fr'=(ifr c fr).put d (v.iv c):=by
 cases d with
 |none=>simp only[Od,Option.some.injEq]at he;subst he;rfl
 |some t=>
  simp only[Od,Ak,Be,Option.some.injEq]at he;obtain⟨ht,rfl⟩:=he;funext x;simp only[Fr.put,Fr.up,ifr];by_cases hx:x<1024
  ·rw[if_pos hx,if_pos hx,Tr.get_set 10 _ _ _ _ (by simpa using ht) (by simpa using hx)]
   by_cases e:x=t
   ·rw[if_pos e,if_pos e]
   ·rw[if_neg e,if_neg e]
  ·rw[if_neg hx,if_neg hx,if_neg (by omega)]
theorem Kl{d:Option Nat}(hf:wfr n fr)(hv:v.wf n)(he:Od fr d v=some fr'):wfr n fr':=by
 cases d with
 |none=>simp only[Od,Option.some.injEq]at he;subst he;exact hf
 |some t=>
  simp only[Od,Ak,Be,Option.some.injEq]at he;obtain⟨ht,rfl⟩:=he;intro x w hx hw;rw[Tr.get_set 10 _ _ _ _ (by simpa using ht) (by simpa using hx)]at hw;split at hw
  ·injection hw with hw;subst hw;exact hv
  ·exact hf x w hx hw
def eGd(ds:List (Option Nat))(fr:Tr RS):Option (Nat×Bool)→Option Bool
 |none=>some true
 |some (j,want)=>match ds.getD j none with
  |some d=>match eEv fr (.tmp d)with
   |some (.v (.bool true))=>some want
   |some (.v (.bool false))=>some (!want)
   |some (.v (.tuple _))=>some false
   |_=>none
  |none=>none
theorem Qe{ds:List (Option Nat)}{g:Option (Nat×Bool)}{A B:Prop}{b:Bool}(he:eGd ds fr g=some b)(hA:b=true→A)(hB:b=false→B):aGd ds (ifr c fr) g A B:=by
 cases g with
 |none=>simp only[eGd,Option.some.injEq]at he;subst he;exact hA rfl
 |some g=>
  obtain⟨j,want⟩:=g;simp only[eGd]at he;simp only[aGd];split at he
  ·rename_i d hd
   simp only[hd];split at he
   ·rename_i hx
    have:=Bh (c:=c) hx;simp only[Fr.ev,RS.iv,RS.vv]at this;injection he with he;subst he;rw[this];cases want with
    |true=>exact hA rfl
    |false=>exact hB rfl
   ·rename_i hx
    have:=Bh (c:=c) hx;simp only[Fr.ev,RS.iv,RS.vv]at this;injection he with he;subst he;rw[this];cases want with
    |true=>exact hB rfl
    |false=>exact hA rfl
   ·rename_i hx
    have:=Bh (c:=c) hx;simp only[Fr.ev,RS.iv,RS.vv]at this;injection he with he;subst he;rw[this];exact hB rfl
   ·cases he
  ·cases he
def eOps(E:En)(ds:List (Option Nat)):List Oper→Tr RS→Sto→Option (Tr RS×Sto)
 | [],fr,h=>some (fr,h)
 |o::r,fr,h=>match eGd ds fr o.guard with
  |some true=>match eOp E o.op fr h with
   |some (v,h')=>match Od fr o.dst v with
    |some fr'=>eOps E ds r fr' h'
    |none=>none
   |none=>none
  |some false=>match Od fr o.dst (.v undef)with
   |some fr'=>eOps E ds r fr' h
   |none=>none
  |none=>none
def Kf(σ0:St)(c:Cx)(h:Sto)(fr':Tr RS)(h':Sto)(K:Fr→St→Prop):Prop:=
 ∀c' σ',Fp h.n c c'→Mt σ0 c' h' σ'→h.n≤h'.n→K0 h h'→wfr h'.n fr'→K (ifr c' fr') σ'
theorem Kf.then{h1:Sto}{K:Fr→St→Prop}{c1:Cx}(hk:Kf σ0 c h fr' h' K)(ha:Fp h.n c c1)(hn:h.n≤h1.n)(hkp:K0 h h1):Kf σ0 c1 h1 fr' h' K:=
 fun c' σ' h1' h2 h3 h4 h5=>hk c' σ' (ha.trans h1' hn) h2 (by omega) (hkp.trans h4 hn) h5
theorem Uj(c:Cx):(RS.v undef).iv c= .v undef:=by simp only[RS.iv,RS.vv]
theorem W4{E:En}(hE:Pz P E){ds:List (Option Nat)}{K:Fr→St→Prop}:∀{l:List Oper} {fr:Tr RS} {h:Sto} {c:Cx} {σ:St},eOps E ds l fr h=some (fr',h')→Mt σ0 c h σ→wfr h.n fr→Kf σ0 c h fr' h' K→My P ds l K (ifr c fr) σ
 | [],fr,h,c,σ,he,hM,hf,hk=>by
  simp only[eOps,Option.some.injEq,Prod.mk.injEq]at he;obtain⟨rfl,rfl⟩:=he;exact hk c σ (.refl _ _) hM (Nat.le_refl _) (.refl h) hf
 |o::r,fr,h,c,σ,he,hM,hf,hk=>by
  simp only[eOps]at he;simp only[My];split at he
  ·rename_i hg
   refine Qe hg (fun _=>?_) (fun h=>by cases h);split at he
   ·rename_i v h1 ho
    split at he
    ·rename_i fr1 hp
     refine W3 hE hM hf ho fun c1 σ1 ha hM1 hn hkp hv=>?_;have hf1:=Kl (Gj hn hf) hv hp;rw[←Ek ha hf,←Kk hp];exact W4 hE he hM1 hf1 (hk.then ha hn hkp)
    ·cases he
   ·cases he
  ·rename_i hg
   refine Qe hg (fun h=>by cases h) (fun _=>?_);split at he
   ·rename_i fr1 hp
    have:=Kk (c:=c) hp;rw[Uj]at this;rw[←this];exact W4 hE he hM (Kl hf (by simp only[RS.wf]) hp) hk
   ·cases he
  ·cases he
structure Nt where
 i:Nat
 o:Op
 f:Tr RS
 v:RS
def Nt.q(P:Program)(c:Cx)(s:Nt):Nat×(St→Prop):=(s.i,fun σ=>Yl P s.o (ifr c s.f) σ (s.v.iv c))
def Aeh(E:En)(h:Sto)(i:Nat):List Nt→Bool
 | []=>true
 |s::S=>(match Nat.beq i s.i with
  |true=>match eOp E s.o s.f h with
   |some (v,h')=>RS.beq v s.v&&Nat.beq h'.n h.n
   |none=>false
  |false=>true)&&Aeh E h i S
def eChk(E:En)(h:Sto)(S:List Nt):List Nat→Bool
 | []=>true
 |i::l=>Aeh E h i S&&eChk E h S l
theorem Zh{E:En}(hE:Pz P E)(hM:Mt σ0 c h σ){i:Nat}:∀{S:List Nt},(∀s∈S,cls P s.o≠2∧wfr h.n s.f)→Aeh E h i S=true→aLk i (S.map (Nt.q P c)) σ
 | [],_,_=>trivial
 |s::S,hS,he=>by
  simp only[Aeh,Bool.and_eq_true]at he;obtain⟨he,he2⟩:=he;refine⟨fun hi=>?_,Zh hE hM (fun t ht=>hS t (by simp[ht])) he2⟩;have hi:i=s.i:=hi;rw[A1.2 hi]at he;simp only at he;split at he
  ·rename_i v h1 ho
   rw[Bool.and_eq_true,A1]at he;have hv:=Xt he.1;have hn:=he.2;obtain⟨hc,hf⟩:=hS s (by simp);have h0:=W3 hE hM hf ho (k:=fun w _=>w=v.iv c) fun c1 σ1 ha _ _ _ hw=>Ln ha v (by rw[←hn];exact hw);obtain⟨w,hw,hy⟩:=N0 hc h0;rw[hw,hv]at hy;exact hy
  ·cases he
theorem Aei{E:En}(hE:Pz P E)(hM:Mt σ0 c h σ){S:List Nt}(hS:∀s∈S,cls P s.o≠2∧wfr h.n s.f):∀{l:List Nat},eChk E h S l=true→aChk l (S.map (Nt.q P c)) σ
 | [],_=>trivial
 |i::l,he=>by
  simp only[eChk,Bool.and_eq_true]at he;exact⟨Zh hE hM hS he.1,Aei hE hM hS he.2⟩
def Oc(E:En)(ds:List (Option Nat))(l:List Oper):List PS→List Nt→Tr RS→Sto→Option (Tr RS×Sto)
 | [],_,fr,h=>some (fr,h)
 | .rd i keep::r,S,fr,h=>match l[i]? with
  |none=>none
  |some o=>match eGd ds fr o.guard with
   |some true=>match eOp E o.op fr h with
    |some (v,h')=>match Od fr o.dst v with
     |some fr'=>Oc E ds l r (match keep with|true=>⟨i,o.op,fr,v⟩::S|false=>S) fr' h'
     |none=>none
    |none=>none
   |some false=>match Od fr o.dst (.v undef)with
    |some fr'=>Oc E ds l r S fr' h
    |none=>none
   |none=>none
 | .ef i chk::r,S,fr,h=>match l[i]? with
  |none=>none
  |some o=>match eGd ds fr o.guard with
   |some true=>match eOp E o.op fr h with
    |some (v,h')=>match eChk E h' S chk with
     |true=>match Od fr o.dst v with
      |some fr'=>Oc E ds l r S fr' h'
      |none=>none
     |false=>none
    |none=>none
   |some false=>match Od fr o.dst (.v undef)with
    |some fr'=>Oc E ds l r S fr' h
    |none=>none
   |none=>none
theorem Aai(ha:Fp n c c'){S:List Nt}(hS:∀s∈S,wfr n s.f∧s.v.wf n):S.map (Nt.q P c')=S.map (Nt.q P c):=
 List.map_congr_left fun s hs=>by
  obtain⟨h1,h2⟩:=hS s hs;simp only[Nt.q,Ek ha h1,Ln ha s.v h2]
theorem Jq{E:En}(hE:Pz P E){ds:List (Option Nat)}{l:List Oper}{K:Fr→St→Prop}:∀{pl:List PS} {S:List Nt} {L:Array Bool} {N:List Nat} {fr:Tr RS} {h:Sto} {c:Cx} {σ:St},Fl P l.toArray pl L N=true→Oc E ds l pl S fr h=some (fr',h')→
  (∀s∈S,cls P s.o≠2∧wfr h.n s.f∧s.v.wf h.n)→Mt σ0 c h σ→wfr h.n fr→Kf σ0 c h fr' h' K→Co P ds l K pl (S.map (Nt.q P c)) (ifr c fr) σ
 | [],S,L,N,fr,h,c,σ,_,he,hS,hM,hf,hk=>by
  simp only[Oc,Option.some.injEq,Prod.mk.injEq]at he;obtain⟨rfl,rfl⟩:=he;exact hk c σ (.refl _ _) hM (Nat.le_refl _) (.refl h) hf
 | .rd i keep::r,S,L,N,fr,h,c,σ,hpl,he,hS,hM,hf,hk=>by
  simp only[Oc]at he;simp only[Co];simp only[Fl,Bool.and_eq_true]at hpl;obtain⟨⟨⟨_,hcls⟩,_⟩,hpl⟩:=hpl;split at he
  ·cases he
  ·rename_i o ho
   try simp only[ho]
   split at he
   ·rename_i hg
    refine Qe hg (fun _=>?_) (fun h=>by cases h);split at he
    ·rename_i v h1 hop
     split at he
     ·rename_i fr1 hp
      refine W3 hE hM hf hop fun c1 σ1 ha hM1 hn hkp hv=>?_;have hf1:=Kl (Gj hn hf) hv hp;have hS1:∀s∈S,cls P s.o≠2∧wfr h1.n s.f∧s.v.wf h1.n:=fun s hs=>⟨(hS s hs).1,Gj hn (hS s hs).2.1,Ja hn _ (hS s hs).2.2⟩;rw[←Aai ha fun s hs=>(hS s hs).2];have hcl:cls P o.op≠2:=by
       simp only[Hi,List.getElem?_toArray,ho,Bool.or_eq_true,Bool.and_eq_true,beq_iff_eq]at hcls;rcases hcls with h|h
       ·omega
       ·omega
      rw[←Ek ha hf,←Kk hp];cases keep with
      |true=>exact Jq hE (S:=⟨i,o.op,fr,v⟩::S) hpl he (fun s hs=>by
        rcases List.mem_cons.1 hs with rfl|hs
        ·exact⟨hcl,Gj hn hf,hv⟩
        ·exact hS1 s hs) hM1 hf1 (hk.then ha hn hkp)
      |false=>exact Jq hE hpl he hS1 hM1 hf1 (hk.then ha hn hkp)
     ·cases he
    ·cases he
   ·rename_i hg
    refine Qe hg (fun h=>by cases h) (fun _=>?_);split at he
    ·rename_i fr1 hp
     have:=Kk (c:=c) hp;rw[Uj]at this;rw[←this];exact Jq hE hpl he hS hM (Kl hf (by simp only[RS.wf]) hp) hk
    ·cases he
   ·cases he
 | .ef i chk::r,S,L,N,fr,h,c,σ,hpl,he,hS,hM,hf,hk=>by
  simp only[Oc]at he;simp only[Co];simp only[Fl,Bool.and_eq_true]at hpl;obtain⟨_,hpl⟩:=hpl;split at he
  ·cases he
  ·rename_i o ho
   try simp only[ho]
   split at he
   ·rename_i hg
    refine Qe hg (fun _=>?_) (fun h=>by cases h);split at he
    ·rename_i v h1 hop
     split at he
     ·rename_i hch
      split at he
      ·rename_i fr1 hp
       refine W3 hE hM hf hop fun c1 σ1 ha hM1 hn hkp hv=>?_;have hf1:=Kl (Gj hn hf) hv hp;have hS1:∀s∈S,cls P s.o≠2∧wfr h1.n s.f∧s.v.wf h1.n:=fun s hs=>⟨(hS s hs).1,Gj hn (hS s hs).2.1,Ja hn _ (hS s hs).2.2⟩;rw[←Aai ha fun s hs=>(hS s hs).2];refine⟨Aei hE hM1 (fun s hs=>⟨(hS1 s hs).1,(hS1 s hs).2.1⟩) hch,?_⟩;rw[←Ek ha hf,←Kk hp];exact Jq hE hpl he hS1 hM1 hf1 (hk.then ha hn hkp)
      ·cases he
     ·cases he
    ·cases he
   ·rename_i hg
    refine Qe hg (fun h=>by cases h) (fun _=>?_);split at he
    ·rename_i fr1 hp
     have:=Kk (c:=c) hp;rw[Uj]at this;rw[←this];exact Jq hE hpl he hS hM (Kl hf (by simp only[RS.wf]) hp) hk
    ·cases he
   ·cases he
end
abbrev ER:=Option (AEx×Tr RS×Sto)
def U9(b:Tr RS→Sto→ER):Nat→Tr RS→Sto→ER
 |0,_,_=>none
 |m+1,fr,h=>match b fr h with
  |some (.normal,fr',h')=>U9 b m fr' h'
  |r=>r
def Akt(id:Nat):Pls→Option (List PS)
 | []=>none
 |(i,p)::l=>match Nat.beq i id with
  |true=>some p
  |false=>Akt id l
def Gd(P:Program)(pls:Pls):Code→Bool
 | .region id ops true=>match Akt id pls with
  |some pl=>pl.length==ops.toList.length&&Fl P ops.toList.toArray pl (Array.replicate ops.toList.length false) []
  |none=>false
 | .seq x y=>Gd P pls x&&Gd P pls y
 | .cond _ x y=>Gd P pls x&&Gd P pls y
 | .block _ x=>Gd P pls x
 | .loop x=>Gd P pls x
 | .scope x=>Gd P pls x
 | .rangeFunc _ _ x y=>Gd P pls x&&Gd P pls y
 |_=>true
def Ab2(E:En)(pls:Pls)(g:RS)(ps:List Nat)(assign body:Code)(fr:Tr RS)(h:Sto):ER:=match g with
 | .fn f fi ca=>gd (fi.all RS.isV&&ca.all RS.isV) (match h.new (.loop fr ps assign body .ready none pls)with
  |some (l,h1)=>match E.cl f (fi++[.yld l]++ca) h1 with
   |some (_,h2)=>match h2.get l with
    | .loop _ _ _ _ st pend _=>match st with
     | .busy=>none
     |_=>match pend with
      |none=>some (.normal,fr,h2.put l .gone)
      |some .ret=>some (.ret,fr,h2.put l .gone)
      |some (.exit id)=>some (.exit id,fr,h2.put l .gone)
      |_=>none
    |_=>none
   |none=>none
  |none=>none)
 |_=>none
def Ds(E:En)(lf:Nat)(pls:Pls):Code→Tr RS→Sto→ER
 | .skip,fr,h=>some (.normal,fr,h)
 | .region id ops false,fr,h=>match eOps E (Ib ops) ops.toList fr h with
  |some (fr',h')=>some (.normal,fr',h')
  |none=>none
 | .region id ops true,fr,h=>match Akt id pls with
  |some pl=>match Oc E (ops.toList.map (·.dst)) ops.toList pl [] fr h with
   |some (fr',h')=>some (.normal,fr',h')
   |none=>none
  |none=>none
 | .seq x y,fr,h=>match Ds E lf pls x fr h with
  |some (.normal,fr',h')=>Ds E lf pls y fr' h'
  |r=>r
 | .cond q x y,fr,h=>match eEv fr q with
  |some (.v (.bool true))=>Ds E lf pls x fr h
  |some (.v (.bool false))=>Ds E lf pls y fr h
  |_=>none
 | .block id x,fr,h=>match Ds E lf pls x fr h with
  |some (.exit j,fr',h')=>match Nat.beq j id with
   |true=>some (.normal,fr',h')
   |false=>some (.exit j,fr',h')
  |r=>r
 | .loop x,fr,h=>U9 (Ds E lf pls x) lf fr h
 | .exit id,fr,h=>some (.exit id,fr,h)
 | .scope x,fr,h=>match Ds E lf pls x fr h with
  |some (.goto _,_,_)=>none
  |r=>r
 | .ret,fr,h=>some (.ret,fr,h)
 | .label _,fr,h=>some (.normal,fr,h)
 | .rangeFunc g ps assign body,fr,h=>match eEv fr g with
  |some g=>Ab2 E pls g ps.toList assign body fr h
  |none=>none
 |_,_,_=>none
section
variable{P:Program}{σ0 σ:St}{c c':Cx}{h h':Sto}{n:Nat}{fr fr':Tr RS}{v:RS}
theorem Zl{x:Code}{b:Tr RS→Sto→ER}
  (hb:∀(e:AEx) (fr:Tr RS) (h:Sto) (fr':Tr RS) (h':Sto) (c:Cx) (σ:St) (K:AK),b fr h=some (e,fr',h')→Mt σ0 c h σ→wfr h.n fr→Kf σ0 c h fr' h' (K e)→A6 P x K (ifr c fr) σ) {K:AK} {e:AEx} (hn:e≠.normal):
  ∀{m:Nat} {fr:Tr RS} {h:Sto} {c:Cx} {σ:St},U9 b m fr h=some (e,fr',h')→Mt σ0 c h σ→wfr h.n fr→Kf σ0 c h fr' h' (K e)→Na P x K m (ifr c fr) σ
 |0,fr,h,c,σ,he,_,_,_=>by cases he
 |m+1,fr,h,c,σ,he,hM,hf,hk=>by
  simp only[U9]at he;show A6 P x (AK.then (Na P x K m) K) (ifr c fr) σ;split at he
  ·rename_i fr1 h1 hb1
   refine hb _ _ _ _ _ c σ _ hb1 hM hf fun c1 σ1 ha hM1 hn1 hkp hf1=>?_;exact Zl hb hn he hM1 hf1 (hk.then ha hn1 hkp)
  ·rename_i hne
   rw[he]at hne;refine hb _ _ _ _ _ c σ _ he hM hf fun c1 σ1 ha hM1 hn1 hkp hf1=>?_;have:=hk c1 σ1 ha hM1 hn1 hkp hf1;cases e with
   |normal=>exact absurd rfl hn
   |_=>exact this
theorem Va{b:Tr RS→Sto→ER}{e:AEx}:∀{m:Nat} {fr:Tr RS} {h:Sto},U9 b m fr h=some (e,fr',h')→e≠.normal
 |0,fr,h,he=>by cases he
 |m+1,fr,h,he=>by
  simp only[U9]at he;split at he
  ·exact Va he
  ·rename_i hne
   intro h2;subst h2;exact hne _ _ he
theorem Agl{E:En}(hE:Pz P E){pls:Pls}{g:RS}{ps:List Nat}{assign body:Code}{K:AK}{e:AEx}(hM:Mt σ0 c h σ)(hf:wfr h.n fr)(hg:g.wf h.n)(he:Ab2 E pls g ps assign body fr h=some (e,fr',h'))(hk:Kf σ0 c h fr' h' (K e)):
  K8 P (g.iv c) ps assign body K (ifr c fr) σ:=by
 unfold Ab2 at he;split at he
 ·rename_i f fi ca
  rw[Ak,Bool.and_eq_true]at he;obtain⟨hv,he⟩:=he;split at he
  ·rename_i l h1 hnew
   split at he
   ·rename_i r h2 hcl
    have hl:=Vq hnew;subst hl;simp only[RS.iv,RS.vv,K8];intro nn b hb hbx;have hag:=Im c h.n b nn;have hfr:=Ek hag hf;obtain⟨_,hn1,hM1⟩:=hM.new (k:=nn) (x:=.loop (ifr c fr) nn ps assign body .ready none) hb hnew (by simp only[io];rw[hfr];simp only[Cx.more,if_true]) hf (Nat.zero_le _);simp only[RS.wf]at hg;have e1:∀l:List RS,l.all RS.isV=true→RS.wfs h.n l→(RS.vvs c l).map AV.v=RS.ivs (c.more h.n b nn) l:=fun l hl hw=>by
     rw[Ft hag l hw,Yh,Di,List.map_map];exact List.map_congr_left fun x hx=>(Ij (List.all_eq_true.1 hl x hx)).symm
    have hargs:(RS.vvs c fi).map AV.v++[AV.v (.func (.yield b) #[] #[])]++(RS.vvs c ca).map AV.v=RS.ivs (c.more h.n b nn) (fi++[.yld h.n]++ca):=by
     rw[e1 fi hv.1 hg.1,e1 ca hv.2 hg.2,Oq,Oq];simp only[RS.ivs,RS.iv,RS.vv,Cx.more,if_true]
    have hwa:RS.wfs h1.n (fi++[.yld h.n]++ca):=by
     rw[hn1];refine Mr (Mr (Fe (by omega) _ hg.1) ?_) (Fe (by omega) _ hg.2);simp only[RS.wfs,RS.wf,and_true];omega
    have hlg:h1.get h.n= .loop fr ps assign body .ready none pls:=by
     unfold Sto.new at hnew;rw[Ak,Be]at hnew;obtain⟨hlt,hnew⟩:=hnew;injection hnew with hnew;injection hnew with _ h3;subst h3;have:=Sto.get_put (h:=h) (o:=.loop fr ps assign body .ready none pls) hlt hlt;rw[if_pos rfl]at this;exact this
    have hkn:=K0.new hnew;rw[hargs];refine hE.cl _ _ _ _ _ hcl σ0 _ _ _ hM1 hwa fun c2 σ2 ha2 hM2 hn2 hkp2 hr=>?_;have hrb:c2.r h.n=b:=by rw[ha2.r h.n (by omega)];simp[Cx.more]
    have hknn:c2.k h.n=nn:=by rw[ha2.k h.n (by omega)];simp[Cx.more]
    have hag2:Fp h.n c c2:=hag.trans ha2 (by omega);split at he
    ·rename_i fr3 ps3 a3 b3 st pend pls3 hget
     rcases hkp2.lp h.n fr ps assign body .ready none pls (by omega) hlg with hgone|⟨st',pend',hget'⟩
     ·rw[hgone]at hget;cases hget
     rw[hget']at hget;injection hget with q1 q2 q3 q4 q5 q6 q7;subst q1;subst q2;subst q3;subst q4;subst q5;subst q6;subst q7;have hfr2:=Ek hag2 hf;have hob:=hM2.ob h.n (.loop (ifr c fr) nn ps assign body st' pend') (by omega) (by rw[hget'];simp only[io,hfr2,hknn]);rw[hrb]at hob;have hne:h2.get h.n≠.gone:=by rw[hget'];intro e;cases e
     have hM3:=hM2.del (i:=h.n) (by omega) hne;rw[hrb]at hM3;have hkd:K0 h2 (h2.put h.n .gone):=.put hM2.wf.lt (by omega) (fun _ _ _ _ _ _ _ _=>.inl rfl) (fun _=>rfl);have hfin:∀e,(h'=h2.put h.n .gone∧fr'=fr)→Kf σ0 c h fr' h' (K e)→K e (ifr c fr) (σ2.del b):=fun e ⟨e1,e2⟩ hk=>by
      subst e1;subst e2;have:=hk c2 _ hag2 hM3 (by show h.n≤h2.n;omega) ((hkn.trans hkp2 (by omega)).trans hkd (by omega)) (Gj (by show h.n≤h2.n;omega) hf);rw[hfr2]at this;exact this
     simp only[M8,hob];split at he
     ·cases he
     ·rename_i hst
      refine⟨hst,?_⟩;unfold Sc;split at he
      ·injection he with he
       injection he with h3 h4;injection h4 with h4 h5;subst h3;exact hfin _ ⟨h5.symm,h4.symm⟩ hk
      ·injection he with he
       injection he with h3 h4;injection h4 with h4 h5;subst h3;exact hfin _ ⟨h5.symm,h4.symm⟩ hk
      ·injection he with he
       injection he with h3 h4;injection h4 with h4 h5;subst h3;exact hfin _ ⟨h5.symm,h4.symm⟩ hk
      ·cases he
    ·cases he
   ·cases he
  ·cases he
 ·cases he
theorem Da{E:En}(hE:Pz P E)(hm:P.follows .mixedOrders=true){lf:Nat}{pls:Pls}:∀(x:Code) {K:AK} {e:AEx} {fr fr':Tr RS} {h h':Sto} {c:Cx} {σ:St},Gd P pls x=true→Ds E lf pls x fr h=some (e,fr',h')→Mt σ0 c h σ→wfr h.n fr→Kf σ0 c h fr' h' (K e)→A6 P x K (ifr c fr) σ
 | .skip,K,e,fr,fr',h,h',c,σ,hp,he,hM,hf,hk=>by
  simp only[Ds,Option.some.injEq,Prod.mk.injEq]at he;obtain⟨rfl,rfl,rfl⟩:=he;exact hk c σ (.refl _ _) hM (Nat.le_refl _) (.refl h) hf
 | .region id ops false,K,e,fr,fr',h,h',c,σ,hp,he,hM,hf,hk=>by
  simp only[Ds]at he;split at he
  ·rename_i fr1 h1 ho
   injection he with he;injection he with h3 h4;injection h4 with h4 h5;subst h3;subst h4;subst h5;simp only[A6];exact W4 hE ho hM hf hk
  ·cases he
 | .region id ops true,K,e,fr,fr',h,h',c,σ,hp,he,hM,hf,hk=>by
  simp only[Ds]at he;simp only[Gd]at hp;split at he
  ·rename_i pl hpl
   rw[hpl]at hp;simp only[Bool.and_eq_true]at hp;split at he
   ·rename_i fr1 h1 ho
    injection he with he;injection he with h3 h4;injection h4 with h4 h5;subst h3;subst h4;subst h5;simp only[A6];have e1:ops=ops.toList.toArray:=by simp
    rw[e1];exact R9 pl hm hp.1 hp.2 (Jq hE (S:=[]) hp.2 ho (fun s hs=>by cases hs) hM hf hk)
   ·cases he
  ·cases he
 | .seq x y,K,e,fr,fr',h,h',c,σ,hp,he,hM,hf,hk=>by
  simp only[Gd,Bool.and_eq_true]at hp;simp only[Ds]at he;simp only[A6];split at he
  ·rename_i fr1 h1 h2
   refine Da hE hm x hp.1 h2 hM hf fun c1 σ1 ha hM1 hn1 hkp hf1=>?_;exact Da hE hm y hp.2 he hM1 hf1 (hk.then ha hn1 hkp)
  ·rename_i hne
   refine Da hE hm x hp.1 he hM hf fun c1 σ1 ha hM1 hn1 hkp hf1=>?_;have:=hk c1 σ1 ha hM1 hn1 hkp hf1;cases e with
   |normal=>exact absurd he (hne _ _)
   |_=>exact this
 | .cond q x y,K,e,fr,fr',h,h',c,σ,hp,he,hM,hf,hk=>by
  simp only[Gd,Bool.and_eq_true]at hp;simp only[Ds]at he;simp only[A6];split at he
  ·rename_i hq
   have:=Bh (c:=c) hq;simp only[RS.iv,RS.vv]at this;rw[this];exact Da hE hm x hp.1 he hM hf hk
  ·rename_i hq
   have:=Bh (c:=c) hq;simp only[RS.iv,RS.vv]at this;rw[this];exact Da hE hm y hp.2 he hM hf hk
  ·cases he
 | .block id x,K,e,fr,fr',h,h',c,σ,hp,he,hM,hf,hk=>by
  simp only[Gd]at hp;simp only[Ds]at he;simp only[A6];split at he
  ·rename_i j fr1 h1 h2
   split at he
   ·rename_i hj
    rw[A1]at hj;injection he with he;injection he with h3 h4;injection h4 with h4 h5;subst h3;subst h4;subst h5;refine Da hE hm x hp h2 hM hf fun c1 σ1 ha hM1 hn1 hkp hf1=>?_;show(if j=id then _ else _);rw[if_pos hj];exact hk c1 σ1 ha hM1 hn1 hkp hf1
   ·rename_i hj
    injection he with he;injection he with h3 h4;injection h4 with h4 h5;subst h3;subst h4;subst h5;refine Da hE hm x hp h2 hM hf fun c1 σ1 ha hM1 hn1 hkp hf1=>?_;show(if j=id then _ else _);rw[if_neg (fun e=>by rw[A1.2 e]at hj;cases hj)];exact hk c1 σ1 ha hM1 hn1 hkp hf1
  ·rename_i hne
   refine Da hE hm x hp he hM hf fun c1 σ1 ha hM1 hn1 hkp hf1=>?_;have:=hk c1 σ1 ha hM1 hn1 hkp hf1;cases e with
   |exit j=>exact absurd he (hne _ _ _)
   |_=>exact this
 | .loop x,K,e,fr,fr',h,h',c,σ,hp,he,hM,hf,hk=>by
  simp only[Gd]at hp;simp only[Ds]at he;simp only[A6];refine Jj lf ?_;exact Zl (fun e fr h fr' h' c σ K h1 h2 h3 h4=>Da hE hm x hp h1 h2 h3 h4) (Va he) he hM hf hk
 | .exit id,K,e,fr,fr',h,h',c,σ,hp,he,hM,hf,hk=>by
  simp only[Ds,Option.some.injEq,Prod.mk.injEq]at he;obtain⟨rfl,rfl,rfl⟩:=he;exact hk c σ (.refl _ _) hM (Nat.le_refl _) (.refl h) hf
 | .scope x,K,e,fr,fr',h,h',c,σ,hp,he,hM,hf,hk=>by
  simp only[Gd]at hp;simp only[Ds]at he;simp only[A6];split at he
  ·cases he
  ·rename_i hne
   refine Da hE hm x hp he hM hf fun c1 σ1 ha hM1 hn1 hkp hf1=>?_;have:=hk c1 σ1 ha hM1 hn1 hkp hf1;cases e with
   |goto j=>exact absurd he (hne _ _ _)
   |_=>exact this
 | .ret,K,e,fr,fr',h,h',c,σ,hp,he,hM,hf,hk=>by
  simp only[Ds,Option.some.injEq,Prod.mk.injEq]at he;obtain⟨rfl,rfl,rfl⟩:=he;exact hk c σ (.refl _ _) hM (Nat.le_refl _) (.refl h) hf
 | .label _,K,e,fr,fr',h,h',c,σ,hp,he,hM,hf,hk=>by
  simp only[Ds,Option.some.injEq,Prod.mk.injEq]at he;obtain⟨rfl,rfl,rfl⟩:=he;exact hk c σ (.refl _ _) hM (Nat.le_refl _) (.refl h) hf
 | .rangeFunc g ps assign body,K,e,fr,fr',h,h',c,σ,hp,he,hM,hf,hk=>by
  simp only[Ds]at he;simp only[A6];split at he
  ·rename_i g' hg
   rw[Bh hg];exact Agl hE hM hf (Cl hf hg) he hk
  ·cases he
 | .goto _,K,e,fr,fr',h,h',c,σ,hp,he,hM,hf,hk=>by simp only[Ds]at he;cases he
 | .refuse _,K,e,fr,fr',h,h',c,σ,hp,he,hM,hf,hk=>by simp only[Ds]at he;cases he
structure FE where
 fn:Func
 pls:Pls
def Api(P:Program)(fe:FE):Bool:=match fe.fn.body with
 |some c=>Ep fe.fn.ntmps c&&fe.fn.results.toList.all (fun q=>decide (V9 q<fe.fn.ntmps))&&Gd P fe.pls c
 |none=>false
structure Fv(P:Program)(f:FuncId)(fe:FE):Prop where
 fn:P.funcs[f]? =some fe.fn
 nm:fe.fn.name≠ "runtime.NumGoroutine"
 ok:Api P fe=true
def Nf:List RS→Nat→Tr RS→Tr RS
 | [],_,t=>t
 |x::l,i,t=>Nf l (i+1) (t.set 10 i x)
theorem Ng:∀{l:List RS} {i:Nat} {t:Tr RS} {j:Nat},i+l.length≤1024→j<1024→(Nf l i t).get 10 j=if i≤j∧j<i+l.length then l[j-i]? else t.get 10 j
 | [],i,t,j,hi,hj=>by simp only[Nf,List.length_nil,Nat.add_zero];rw[if_neg (by omega)]
 |x::l,i,t,j,hi,hj=>by
  simp only[List.length_cons]at hi;simp only[Nf,List.length_cons];rw[Ng (by omega) hj,Tr.get_set 10 _ _ _ _ (by simp;omega) (by simpa using hj)];by_cases h1:j=i
  ·subst h1
   rw[if_neg (by omega),if_pos rfl,if_pos (by omega)];simp
  ·by_cases h2:i+1≤j∧j<i+1+l.length
   ·rw[if_pos h2,if_pos (by omega)]
    obtain⟨k,hk⟩:∃k,j-i=k+1:=⟨j-i-1,by omega⟩;rw[hk,show j-(i+1)=k by omega];simp
   ·rw[if_neg h2,if_neg h1,if_neg (by omega)]
theorem Af0(j:Nat):(Tr.e:Tr RS).get 10 j=none:=rfl
theorem Ai7{as:List RS}(h:as.length≤1024):ifr c (Nf as 0 .e)=I4 (RS.ivs c as):=by
 funext j;simp only[ifr,I4];by_cases hj:j<1024
 ·rw[if_pos hj,Ng (by omega) hj,Af0]
  by_cases h2:j<as.length
  ·rw[if_pos (by omega),Nat.sub_zero]
   obtain⟨x,hx⟩:∃x,as[j]? =some x:=⟨as[j],by simp[h2]⟩;rw[hx,To hx]
  ·rw[if_neg (by omega),List.getD_eq_getElem?_getD,List.getElem?_eq_none (by rw[Db];omega)]
   rfl
 ·rw[if_neg hj,List.getD_eq_getElem?_getD,List.getElem?_eq_none (by rw[Db];omega)]
  rfl
theorem Zu{as:List RS}(h:as.length≤1024)(hw:RS.wfs n as):wfr n (Nf as 0 .e):=by
 intro j v hj hv;rw[Ng (by omega) hj,Af0]at hv;split at hv
 ·exact R7 hw hv
 ·cases hv
def Ael(E:En)(fr:Tr RS)(h:Sto):ResultVar→Option RS
 | .tmp t=>eEv fr (.tmp t)
 | .cell b t=>match E.te t,eEv fr (.tmp b)with
  |some te,some (.ptr i 0)=>match h.get i with
   | .cells cs=>Lg te.k.ag te.k.sz 0 cs
   |_=>none
  |_,_=>none
def S9(E:En)(fr:Tr RS)(h:Sto):List ResultVar→Option (List RS)
 | []=>some []
 |q::l=>match Ael E fr h q with
  |some x=>match S9 E fr h l with
   |some xs=>some (x::xs)
   |none=>none
  |none=>none
def oneS:List RS→RS
 | [x]=>x
 |l=>.tup l
theorem Aoj(l:List RS):(oneS l).iv c=oneR (RS.ivs c l):=by
 match l with
 | []=>simp only[oneS,RS.iv,RS.ivs,oneR]
 | [x]=>simp only[oneS,RS.ivs,oneR]
 |x::y::l=>simp only[oneS,RS.iv,RS.ivs,oneR]
theorem Aok{l:List RS}(h:RS.wfs n l):(oneS l).wf n:=by
 match l,h with
 | [],h=>simpa only[oneS,RS.wf]using h
 | [x],h=>simp only[RS.wfs]at h;exact h.1
 |x::y::l,h=>simpa only[oneS,RS.wf]using h
theorem Ai0{E:En}(hE:Pz P E)(hM:Mt σ0 c h σ)(hf:wfr h.n fr){q:ResultVar}(he:Ael E fr h q=some v):Sd P (ifr c fr) σ q=some (v.iv c)∧v.wf h.n:=by
 cases q with
 |tmp t=>simp only[Ael]at he;exact⟨congrArg some (Bh he),Cl hf he⟩
 |cell b t=>
  simp only[Ael]at he;split at he
  ·rename_i te i hte hb
   split at he
   ·rename_i cs hg
    have h1:=Bh (c:=c) hb;have h2:=Cl hf hb;simp only[RS.wf]at h2;simp only[Fr.ev,RS.iv,RS.vv]at h1;have h3:=hM.ob i (.cells (RS.ivs c cs)) h2 (by rw[hg];rfl);have hw:=hM.wf.ob i h2;rw[hg]at hw;refine⟨?_,Js hw he⟩;have:=Jr (c:=c) (K:=fun a=>a=v.iv c) he rfl;unfold Ky at this;simp only[Sd,(hE.ty _ _ hte).k,Yt,h1,h3];cases hag:te.k.ag with
    |true=>
     rw[hag]at this;simp only[if_true,Nat.zero_add,List.drop_zero]at this⊢;rw[if_pos this.1,this.2]
    |false=>
     rw[hag]at this;simp only[Bool.false_eq_true,if_false]at this⊢;rw[if_pos this.1,this.2]
   ·cases he
  ·cases he
theorem Zn{E:En}(hE:Pz P E)(hM:Mt σ0 c h σ)(hf:wfr h.n fr):∀{l:List ResultVar} {vs:List RS},S9 E fr h l=some vs→Q9 P (ifr c fr) σ l=some (RS.ivs c vs)∧RS.wfs h.n vs
 | [],vs,he=>by simp only[S9,Option.some.injEq]at he;subst he;exact⟨rfl,by simp only[RS.wfs]⟩
 |q::l,vs,he=>by
  simp only[S9]at he;split at he
  ·rename_i x hx
   split at he
   ·rename_i xs hxs
    injection he with he;subst he;have h1:=Ai0 hE hM hf hx;have h2:=Zn hE hM hf hxs;simp only[Q9,h1.1,h2.1,RS.ivs,RS.wfs];exact⟨trivial,h1.2,h2.2⟩
   ·cases he
  ·cases he
def eFun(E:En)(lf:Nat)(fe:FE)(as:List RS)(h:Sto):Option (RS×Sto):=gd (Nat.ble as.length 1024&&Nat.ble as.length fe.fn.ntmps) (match fe.fn.body with
 |some c=>match Ds E lf fe.pls c (Nf as 0 .e) h with
  |some (.normal,fr',h')=>match S9 E fr' h' fe.fn.results.toList with
   |some vs=>some (oneS vs,h')
   |none=>none
  |some (.ret,fr',h')=>match S9 E fr' h' fe.fn.results.toList with
   |some vs=>some (oneS vs,h')
   |none=>none
  |_=>none
 |none=>none)
theorem Amp{E:En}(hE:Pz P E)(hm:P.follows .mixedOrders=true){lf:Nat}{f:FuncId}{fe:FE}(hfe:Fv P f fe){as:List RS}(he:eFun E lf fe as h=some (v,h'))(hM:Mt σ0 c h σ)(hw:RS.wfs h.n as){k:AV→St→Prop}(hk:Kt σ0 c h v h' k):AT P f (RS.ivs c as) σ k:=by
 unfold eFun at he;rw[Ak,Bool.and_eq_true,Bz,Bz]at he;obtain⟨⟨hl1,hl2⟩,he⟩:=he;have hok:=hfe.ok;unfold Api at hok;split at he
 ·rename_i cd hcd
  rw[hcd]at hok;simp only[Bool.and_eq_true]at hok;refine AT.of_body hfe.fn hcd hfe.nm hok.1.1 hok.1.2 (by rw[Db];exact hl2) ?_;rw[←Ai7 hl1];have fin:∀fr1 h1 vs,S9 E fr1 h1 fe.fn.results.toList=some vs→v=oneS vs→h'=h1→Kf σ0 c h fr1 h1 (Dr P k fe.fn.results.toList):=fun fr1 h1 vs hr e1 e2 c1 σ1 ha hM1 hn1 hkp hf1=>by
   subst e1;subst e2;obtain⟨g1,g2⟩:=Zn hE hM1 hf1 hr;refine⟨_,by unfold A8;rw[g1],_,σ1,Gq.refl _ _,?_⟩;rw[←Aoj];exact hk c1 σ1 ha hM1 hn1 hkp (Aok g2)
  split at he
  ·rename_i fr1 h1 hc1
   split at he
   ·rename_i vs hvs
    injection he with he;injection he with e1 e2;exact Da hE hm cd hok.2 hc1 hM (Zu hl1 hw) (fin _ _ _ hvs e1.symm e2.symm)
   ·cases he
  ·rename_i fr1 h1 hc1
   split at he
   ·rename_i vs hvs
    injection he with he;injection he with e1 e2;exact Da hE hm cd hok.2 hc1 hM (Zu hl1 hw) (fin _ _ _ hvs e1.symm e2.symm)
   ·cases he
  ·cases he
 ·cases he
end
def parT:List Nat→List RS→Tr RS→Option (Tr RS)
 |p::ps,a::as,fr=>gd (Nat.blt p 1024) (parT ps as (fr.set 10 p a))
 |_,_,fr=>some fr
def Ab4(P:Program)(E:En)(lf:Nat)(l:Nat)(as:List RS)(h:Sto):Option (RS×Sto):=match h.get l with
 | .loop fr ps a b st pend pls=>match st with
  | .ready=>gd (Nat.beq as.length ps.length&&Ql a&&Ql b&&Gd P pls a&&Gd P pls b) (match parT ps as fr with
   |some fr0=>match Ds E lf pls a fr0 h with
    |some (.normal,fr1,h1)=>match h1.get l with
     | .loop _ _ _ _ .ready none _=>match Ds E lf pls b fr1 (h1.put l (.loop fr ps a b .busy none pls))with
      |some (e,_,h3)=>match h3.get l with
       | .loop _ _ _ _ .busy _ _=>match e with
        | .normal=>some (.v (.bool true),h3.put l (.loop fr ps a b .ready none pls))
        | .ret=>some (.v (.bool false),h3.put l (.loop fr ps a b .done (some .ret) pls))
        | .exit id=>some (.v (.bool false),h3.put l (.loop fr ps a b .done (some (.exit id)) pls))
        | .goto _=>none
       |_=>none
      |none=>none
     |_=>none
    |_=>none
   |none=>none)
  |_=>none
 |_=>none
section
variable{P:Program}{σ0 σ:St}{c c':Cx}{h h':Sto}{n:Nat}{fr fr':Tr RS}{v:RS}
theorem Afe:∀{ps:List Nat} {as:List RS} {fr fr':Tr RS},parT ps as fr=some fr'→ifr c fr'=Ph (ifr c fr) ps (RS.ivs c as)
 |p::ps,a::as,fr,fr',he=>by
  simp only[parT,Ak,Be]at he;obtain⟨hp,he⟩:=he;have:=Kk (c:=c) (fr:=fr) (d:=some p) (v:=a) (fr':=fr.set 10 p a) (by simp only[Od];rw[Be.2 hp];rfl);rw[Afe he,this];rfl
 | [],as,fr,fr',he=>by simp only[parT,Option.some.injEq]at he;subst he;rfl
 |p::ps,[],fr,fr',he=>by simp only[parT,Option.some.injEq]at he;subst he;rfl
theorem Aff:∀{ps:List Nat} {as:List RS} {fr fr':Tr RS},wfr n fr→RS.wfs n as→parT ps as fr=some fr'→wfr n fr'
 |p::ps,a::as,fr,fr',hf,hw,he=>by
  simp only[parT,Ak,Be]at he;obtain⟨hp,he⟩:=he;simp only[RS.wfs]at hw;exact Aff (Kl (d:=some p) hf hw.1 (by simp only[Od];rw[Be.2 hp];rfl)) hw.2 he
 | [],as,fr,fr',hf,_,he=>by simp only[parT,Option.some.injEq]at he;subst he;exact hf
 |p::ps,[],fr,fr',hf,_,he=>by simp only[parT,Option.some.injEq]at he;subst he;exact hf
theorem Agn{E:En}(hE:Pz P E)(hm:P.follows .mixedOrders=true){lf l:Nat}{as:List RS}(he:Ab4 P E lf l as h=some (v,h'))(hM:Mt σ0 c h σ)(hw:RS.wfs h.n as)(hl:l<h.n){k:AV→St→Prop}(hk:Kt σ0 c h v h' k):
  YC P (c.r l) (RS.ivs c as) σ k:=by
 unfold Ab4 at he;split at he
 ·rename_i fr ps a b st pend pls hg
  split at he
  ·rw[Ak]at he
   simp only[Bool.and_eq_true,A1]at he;obtain⟨⟨⟨⟨⟨hlen,hfa⟩,hfb⟩,hpa⟩,hpb⟩,he⟩:=he;have hob:=hM.ob l (.loop (ifr c fr) (c.k l) ps a b .ready pend) hl (by rw[hg];rfl);have hfw:=hM.wf.ob l hl;rw[hg]at hfw;refine Abo hob (by rw[Db];exact hlen) (by rw[hfa,hfb];rfl) ?_;split at he
   ·rename_i fr0 hpar
    rw[←Afe hpar];have hf0:=Aff hfw hw hpar;split at he
    ·rename_i fr1 h1 hca
     refine Da hE hm a hpa hca hM hf0 fun c1 σ1 ha1 hM1 hn1 hkp1 hf1=>?_;have hfr1:=Ek ha1 hfw;split at he
     ·rename_i fq pq aq bq pls1 hg1
      have hr1:h1.get l= .loop fr ps a b .ready none pls:=by
       rcases hkp1.lp l fr ps a b .ready pend pls hl hg with h2|⟨st',pend',h2⟩
       ·rw[h2]at hg1;cases hg1
       ·rw[h2]at hg1
        injection hg1 with q1 q2 q3 q4 q5 q6 q7;subst q5;subst q6;exact h2
      have hob1:=hM1.ob l (.loop (ifr c fr) (c.k l) ps a b .ready none) (by omega) (by rw[hr1];simp only[io,hfr1,ha1.k l hl]);rw[ha1.r l hl]at hob1;refine⟨hob1,?_⟩;have hne1:h1.get l≠.gone:=by rw[hr1];intro e;cases e
      have hM2:=hM1.put (i:=l) (o:=.loop fr ps a b .busy none pls) (x:=.loop (ifr c fr) (c.k l) ps a b .busy none) (by omega) hne1 (by simp only[io,hfr1,ha1.k l hl]) (Gj hn1 hfw) (Nat.zero_le _);rw[ha1.r l hl]at hM2
      have hkp2:K0 h1 (h1.put l (.loop fr ps a b .busy none pls)):=.put hM1.wf.lt (by omega) (fun fr' ps' a' b' st' pend' pls' e=>by
       rw[hr1]at e;injection e with q1 q2 q3 q4 q5 q6 q7;subst q1;subst q2;subst q3;subst q4;subst q7;exact .inr ⟨.busy,none,rfl⟩) (fun e=>absurd e hne1)
      split at he
      ·rename_i e fr3 h3 hcb
       refine Da hE hm b hpb hcb hM2 hf1 fun c3 σ3 ha3 hM3 hn3 hkp3 hf3=>?_;have hn2:h.n≤h3.n:=Nat.le_trans hn1 hn3;have hl2:(h1.put l (.loop fr ps a b .busy none pls)).get l= .loop fr ps a b .busy none pls:=by
        have:=Sto.get_put (h:=h1) (o:=.loop fr ps a b .busy none pls) (i:=l) (j:=l) (by have:=hM1.wf.lt;omega) (by have:=hM1.wf.lt;omega);rw[if_pos rfl]at this;exact this
       have ha13:Fp h.n c c3:=ha1.trans ha3 hn1;have hfr3:=Ek ha13 hfw;split at he
       ·rename_i fq pq aq bq pendq plsq hg3
        have hr3:∃p,h3.get l= .loop fr ps a b .busy p pls:=by
         rcases hkp3.lp l fr ps a b .busy none pls (by show l<h1.n;omega) hl2 with h2|⟨st',pend',h2⟩
         ·rw[h2]at hg3;cases hg3
         ·rw[h2]at hg3
          injection hg3 with q1 q2 q3 q4 q5 q6 q7;subst q5;exact⟨pend',h2⟩
        obtain⟨p3,hr3⟩:=hr3;have hob3:=hM3.ob l (.loop (ifr c fr) (c.k l) ps a b .busy p3) (by omega) (by rw[hr3];simp only[io,hfr3,ha13.k l hl]);rw[ha13.r l hl]at hob3;have hne3:h3.get l≠.gone:=by rw[hr3];intro e;cases e
        have fin:∀st' pend' (x:RS),x.wf 0→v=x→h'=h3.put l (.loop fr ps a b st' pend' pls)→k (x.iv c3) (σ3.set (c.r l) (.loop (ifr c fr) (c.k l) ps a b st' pend')):=fun st' pend' x hx e1 e2=>by
         subst e1;subst e2;have hM4:=hM3.put (i:=l) (o:=.loop fr ps a b st' pend' pls) (x:=.loop (ifr c fr) (c.k l) ps a b st' pend') (by omega) hne3 (by simp only[io,hfr3,ha13.k l hl]) (Gj hn2 hfw) (Nat.zero_le _);rw[ha13.r l hl]at hM4;refine hk c3 _ ha13 hM4 hn2 ?_ (Ja (Nat.zero_le _) _ hx)
         refine((hkp1.trans hkp2 hn1).trans hkp3 (by show h.n≤h1.n;omega)).trans (.put hM3.wf.lt (by omega) (fun fr' ps' a' b' st'' pend'' pls' e=>by
          rw[hr3]at e;injection e with q1 q2 q3 q4 q5 q6 q7;subst q1;subst q2;subst q3;subst q4;subst q7;exact .inr ⟨st',pend',rfl⟩) (fun e=>absurd e hne3)) hn2
        split at he
        ·injection he with he
         injection he with e1 e2;have:=fin .ready none (.v (.bool true)) (by simp only[RS.wf]) e1.symm e2.symm;simp only[RS.iv,RS.vv]at this;exact⟨⟨p3,hob3⟩,this⟩
        ·injection he with he
         injection he with e1 e2;have:=fin .done (some .ret) (.v (.bool false)) (by simp only[RS.wf]) e1.symm e2.symm;simp only[RS.iv,RS.vv]at this;exact⟨⟨p3,hob3⟩,this⟩
        ·injection he with he
         injection he with e1 e2;have:=fin .done (some (.exit _)) (.v (.bool false)) (by simp only[RS.wf]) e1.symm e2.symm;simp only[RS.iv,RS.vv]at this;exact⟨⟨p3,hob3⟩,this⟩
        ·cases he
       ·cases he
      ·cases he
     ·cases he
    ·cases he
   ·cases he
  ·cases he
 ·cases he
def mkE(P:Program)(ty:Tr TE)(ft:Tr FE)(idle:FuncId→Bool)(lf:Nat):Nat→En
 |0=>⟨ty,fun _ _ _=>none,fun _ _ _=>none,idle⟩
 |d+1=>⟨ty,fun f as h=>match gd (Nat.blt f 1024) (ft.get 10 f)with
   |some fe=>eFun (mkE P ty ft idle lf d) lf fe as h
   |none=>none,fun l as h=>Ab4 P (mkE P ty ft idle lf d) lf l as h,idle⟩
structure PrOk(P:Program)(ty:Tr TE)(ft:Tr FE)(idle:FuncId→Bool):Prop where
 mx:P.follows .mixedOrders=true
 ty:∀t e,t<1024→ty.get 10 t=some e→Gl P t e
 ft:∀f e,f<1024→ft.get 10 f=some e→Fv P f e
 idle:∀f,idle f=true→(∃fn,P.funcs[f]? =some fn∧fn.body.isSome=true∧fn.name≠ "runtime.NumGoroutine")∧∀vs,Ym P f vs
theorem Ake{ty:Tr TE}{ft:Tr FE}{idle:FuncId→Bool}(hp:PrOk P ty ft idle)(lf d:Nat)(t:TypeId)(e:TE)(he:(mkE P ty ft idle lf d).te t=some e):Gl P t e:=by
 have h2:(mkE P ty ft idle lf d).ty=ty:=by cases d<;>rfl
 simp only[En.te,h2,Ak,Be]at he;exact hp.ty t e he.1 he.2
theorem Aco{ty:Tr TE}{ft:Tr FE}{idle:FuncId→Bool}(hp:PrOk P ty ft idle)(lf:Nat):∀d,Pz P (mkE P ty ft idle lf d)
 |0=>by
  refine⟨Ake hp lf 0,?_,?_,hp.idle⟩
  ·intro f as h v h' he;cases he
  ·intro l as h v h' he;cases he
 |d+1=>by
  refine⟨Ake hp lf (d+1),?_,?_,hp.idle⟩
  ·intro f as h v h' he σ0 c σ k hM hw hk
   simp only[mkE]at he;split at he
   ·rename_i fe hfe
    rw[Ak,Be]at hfe;exact Amp (Aco hp lf d) hp.mx (hp.ft f fe hfe.1 hfe.2) he hM hw hk
   ·cases he
  ·intro l as h v h' he σ0 c σ k hM hw hl hk
   exact Agn (Aco hp lf d) hp.mx he hM hw hl hk
end
end Go.Av
