/-
  The program logic: definitions and lemmas over any program.
  Conditions: none.
-/
import Derived.WalkKit
import Derived.KernelRfl
import Derived.Deep.MidRow
import Derived.RangeFuncRecord
import Derived.Maps.AppendAt
import Derived.Laws.BytesArg
import Derived.Laws.Slices
import Derived.Laws.MakeOwn
import Derived.Lib.ConvBytes
import Derived.RangeFuncLeaves
import Derived.Laws.StructEq
import Derived.ChangeKeysEq
import Derived.MapKept
import Derived.Laws.Externs
import Derived.Lib.MinMax
import Derived.Scope
import Derived.Orders
import Derived.Deep.Quiet
import Derived.ProofKit
import Derived.OpenShut
import Derived.ShutString
import Derived.ChangeOld
import Derived.Below
import Derived.SizedLaws
import Derived.Sort.AssemblyPlain
import Derived.RecoverIn
import Derived.BigFrame
set_option linter.unusedVariables false
set_option linter.unusedSimpArgs false
set_option linter.unusedSectionVars false
set_option maxRecDepth 100000
namespace Go.Av
open Go Go.RowKit
inductive AV where
 |v (x:Value)
 |sl (k:Nat) (es:List (List AV))
 |fsl (k:Nat) (es:List (List AV))
 |fp (cs:List AV)
 |rp (b k i f:Nat)
 |agg (cs:List AV)
 |tup (vs:List AV)
def AV.cells:AV→List AV
 | .agg cs=>cs
 | .v (.agg cs)=>cs.toList.map .v
 |x=>[x]
def AV.one:AV→Bool
 | .v x=>x.oneCell'
 | .agg _| .tup _=>false
 |_=>true
abbrev Fr:=Nat→AV
def Bb(n:Nat):Operand→Bool
 | .tmp t=>t<n
 |_=>true
def Gv(n:Nat)(ops:Array Oper)(o:Oper):Bool:=
 (o.op.operands.all (Bb n))&&(match o.dst with|some d=>decide (d<n)|none=>true)&&(match o.guard with|some (j,_)=>(match(ops[j]?).bind (·.dst)with|some d=>decide (d<n)|none=>true)|none=>true)
def Eu(n:Nat):Code→Bool
 | .region _ ops _=>ops.all (Gv n ops)
 | .seq x y=>Eu n x&&Eu n y
 | .cond c x y=>Bb n c&&Eu n x&&Eu n y
 | .block _ x| .loop x| .scope x=>Eu n x
 | .rangeFunc g ps x y=>Bb n g&&ps.all (fun t=>decide (t<n))&&Eu n x&&Eu n y
 |_=>true
def Ph:Op→Bool
 | .defer _=>false
 |_=>true
def Qq:Code→Bool
 | .region _ ops _=>ops.toList.all fun o=>Ph o.op
 | .seq x y| .cond _ x y=>Qq x&&Qq y
 | .block _ x| .loop x=>Qq x
 | .scope _| .rangeFunc .. =>false
 |_=>true
inductive Cj where
 |cells (cs:List AV)
 |rows (k:Nat) (es:List (List AV)) (frz:Bool) (cap:Nat)
 |map (kv:List (Value×AV))
 |loop (fr:Fr) (n:Nat) (ps:List Nat) (assign body:Code) (st:LoopState) (pend:Option Code)
abbrev St:=Nat→Option Cj
def St.set(σ:St)(b:Nat)(o:Cj):St:=fun x=>if x=b then some o else σ x
def St.del(σ:St)(b:Nat):St:=fun x=>if x=b then none else σ x
abbrev Bl:=Nat→Nat
inductive RV(F:Bl)(w:World):AV→Value→Prop
 |v (x:Value):RV F w (.v x) x
 |sl0 (k:Nat) (a:Option Addr) (cap:Nat):RV F w (.sl k []) (.slice a 0 cap)
 |sl (k:Nat) (es:List (List AV)) (b o:Nat) (c:Nat→Value) (n cap:Nat) (hn:n=es.length) (hk:∀e∈es,e.length=k∧e.all AV.one=true) (hcap:n≤cap)
   (hF:o+es.length*k≤F b) (hc:∀j,j<es.length*k→w.cell? ⟨b,o+j,none⟩=some (c j))
   (hr:∀i j,i<es.length→j<k→RV F w ((es.getD i []).getD j (.v undef)) (c (i*k+j))):RV F w (.sl k es) (.slice (some ⟨b,o,none⟩) n cap)
 |fsl0 (k:Nat) (a:Option Addr):RV F w (.fsl k []) (.slice a 0 0)
 |fsl (k:Nat) (es:List (List AV)) (b o:Nat) (c:Nat→Value) (n:Nat) (hn:n=es.length) (hk:∀e∈es,e.length=k∧e.all AV.one=true)
   (hF:o+es.length*k≤F b) (hc:∀j,j<es.length*k→w.cell? ⟨b,o+j,none⟩=some (c j))
   (hr:∀i j,i<es.length→j<k→RV F w ((es.getD i []).getD j (.v undef)) (c (i*k+j))):RV F w (.fsl k es) (.slice (some ⟨b,o,none⟩) n n)
 |fp (cs:List AV) (b o:Nat) (c:Nat→Value) (h1:cs.all AV.one=true) (hF:o+cs.length≤F b) (hc:∀j,j<cs.length→w.cell? ⟨b,o+j,none⟩=some (c j))
   (hr:∀j,j<cs.length→RV F w (cs.getD j (.v undef)) (c j)):RV F w (.fp cs) (.pointer (some ⟨b,o,none⟩))
 |rp (b k i f:Nat):RV F w (.rp b k i f) (.pointer (some ⟨b,i*k+f,none⟩))
 |agg (cs:List AV) (vs:Array Value) (hl:vs.size=cs.length) (h:∀j,j<cs.length→RV F w (cs.getD j (.v undef)) (vs.getD j undef)):RV F w (.agg cs) (.agg vs)
 |tup (cs:List AV) (vs:Array Value) (hl:vs.size=cs.length) (h:∀j,j<cs.length→RV F w (cs.getD j (.v undef)) (vs.getD j undef)):RV F w (.tup cs) (.tuple vs)
theorem RV.eq{F:Bl}{w:World}{q x:Value}(h:RV F w (.v q) x):x=q:=by cases h;rfl
structure B9(F:Bl)(w:World)(F':Bl)(w':World):Prop where
 le:∀b,F b≤F' b
 cell:∀b o,o<F b→w'.cell? ⟨b,o,none⟩=w.cell? ⟨b,o,none⟩
theorem B9.refl(F:Bl)(w:World):B9 F w F w:=⟨fun _=>Nat.le_refl _,fun _ _ _=>rfl⟩
theorem B9.trans{F1 F2 F3:Bl}{w1 w2 w3:World}(h:B9 F1 w1 F2 w2)(h':B9 F2 w2 F3 w3):B9 F1 w1 F3 w3:=
 ⟨fun b=>Nat.le_trans (h.le b) (h'.le b),fun b o ho=>(h'.cell b o (Nat.lt_of_lt_of_le ho (h.le b))).trans (h.cell b o ho)⟩
theorem RV.mono{F F':Bl}{w w':World}(hk:B9 F w F' w'){a:AV}{x:Value}(h:RV F w a x):RV F' w' a x:=by
 induction h with
 |v x=>exact .v x
 |sl0 k a cap=>exact .sl0 k a cap
 |sl k es b o c n cap hn hk' hcap hF hc hr ih=>
  exact .sl k es b o c n cap hn hk' hcap (Nat.le_trans hF (hk.le b)) (fun j hj=>(hk.cell b (o+j) (by omega)).trans (hc j hj)) ih
 |fsl0 k a=>exact .fsl0 k a
 |fsl k es b o c n hn hk' hF hc hr ih=>
  exact .fsl k es b o c n hn hk' (Nat.le_trans hF (hk.le b)) (fun j hj=>(hk.cell b (o+j) (by omega)).trans (hc j hj)) ih
 |fp cs b o c h1 hF hc hr ih=>
  exact .fp cs b o c h1 (Nat.le_trans hF (hk.le b)) (fun j hj=>(hk.cell b (o+j) (by omega)).trans (hc j hj)) ih
 |rp b k i f=>exact .rp b k i f
 |agg cs vs hl h ih=>exact .agg cs vs hl ih
 |tup cs vs hl h ih=>exact .tup cs vs hl ih
def RVs(F:Bl)(w:World)(cs:List AV)(vs:List Value):Prop:=vs.length=cs.length∧∀j,j<cs.length→RV F w (cs.getD j (.v undef)) (vs.getD j undef)
theorem RV.cells{F:Bl}{w:World}{a:AV}{x:Value}(h:RV F w a x):RVs F w a.cells x.cells.toList:=by
 cases h with
 |v x=>
  cases x with
  |agg cs=>
   refine⟨by simp[AV.cells,Value.cells],fun j hj=>?_⟩;simp[AV.cells]at hj;simp[AV.cells,Value.cells,List.getD_eq_getElem?_getD,hj];exact .v _
  |_=>
   refine⟨by simp[AV.cells,Value.cells],fun j hj=>?_⟩;simp[AV.cells]at hj;subst hj;exact .v _
 |agg cs vs hl h=>
  refine⟨by simpa[AV.cells,Value.cells]using hl,fun j hj=>?_⟩;simp only[AV.cells]at hj;have:=h j hj;simpa[AV.cells,Value.cells]using this
 |sl0 k a cap=>exact⟨rfl,fun j hj=>by obtain rfl:j=0:=by simpa[AV.cells]using hj
                                      exact .sl0 k a cap⟩
 |sl k es b o c n cap hn hk hcap hF hc hr=>exact⟨rfl,fun j hj=>by obtain rfl:j=0:=by simpa[AV.cells]using hj
                                                                  exact .sl k es b o c n cap hn hk hcap hF hc hr⟩
 |fsl0 k a=>exact⟨rfl,fun j hj=>by obtain rfl:j=0:=by simpa[AV.cells]using hj
                                   exact .fsl0 k a⟩
 |fsl k es b o c n hn hk hF hc hr=>exact⟨rfl,fun j hj=>by obtain rfl:j=0:=by simpa[AV.cells]using hj
                                                          exact .fsl k es b o c n hn hk hF hc hr⟩
 |fp cs b o c h1 hF hc hr=>exact⟨rfl,fun j hj=>by obtain rfl:j=0:=by simpa[AV.cells]using hj
                                                  exact .fp cs b o c h1 hF hc hr⟩
 |rp b k i f=>exact⟨rfl,fun j hj=>by obtain rfl:j=0:=by simpa[AV.cells]using hj
                                     exact .rp b k i f⟩
 |tup cs vs hl h=>exact⟨rfl,fun j hj=>by obtain rfl:j=0:=by simpa[AV.cells]using hj
                                         exact .tup cs vs hl h⟩
theorem RV.one{F:Bl}{w:World}{a:AV}{x:Value}(h:RV F w a x)(h1:a.one=true):x.oneCell'=true:=by
 cases h<;>first|exact h1|rfl|(simp[AV.one]at h1)
def KVs(F:Bl)(w:World):List (Value×AV)→List MapEntry→Prop
 | [],[]=>True
 |(x,v)::l,e::es=>e.key=x∧RV F w v e.val∧KVs F w l es
 |_,_=>False
theorem KVs.mono{F F':Bl}{w w':World}(hk:B9 F w F' w'):∀{kv:List (Value×AV)} {es:List MapEntry},KVs F w kv es→KVs F' w' kv es
 | [],[],h=>h
 |(x,v)::l,e::es,h=>⟨h.1,h.2.1.mono hk,h.2.2.mono hk⟩
 | [],_::_,h=>h.elim
 |_::_,[],h=>h.elim
def Holds(F:Bl)(w:World)(b:Nat):Cj→Prop
 | .cells cs=>∃c e m,w.heap[b]? =some (.cells c e m)∧c.size=cs.length∧(∀i,i<c.size→¬(m.1≤i∧i<m.2))∧F b=0∧cs.all AV.one=true∧∀j,j<cs.length→RV F w (cs.getD j (.v undef)) (c.getD j undef)
 | .rows k es frz cap=>∃c e m,w.heap[b]? =some (.cells c e m)∧cap*k≤c.size∧es.length≤cap∧(∀e∈es,e.length=k∧e.all AV.one=true)∧(∀i,(i<c.size∨1<k∧i=c.size)→¬(m.1≤i∧i<m.2))∧F b=(if frz then es.length*k else 0)∧
   ∀i j,i<es.length→j<k→RV F w ((es.getD i []).getD j (.v undef)) (c.getD (i*k+j) undef)
 | .map kv=>∃es clk,w.heap[b]? =some (.map es clk)∧F b=0∧KVs F w kv es.toList
 | .loop fr n ps assign body st pend=>∃r,w.heap[b]? =some (.loop r)∧F b=0∧r.params.toList=ps∧r.assign=assign∧r.body=body∧r.state=st∧r.pending=pend∧r.tmps.size=n∧(Eu n assign=true∧Eu n body=true∧∀t∈ps,t<n)∧∀t,t<n→RV F w (fr t) (r.tmps.getD t undef)
structure Rel(F:Bl)(w:World)(σ:St):Prop where
 obj:∀b o,σ b=some o→Holds F w b o
 lt:∀b,w.heap.size≤b→F b=0
theorem Rel.lt_size{F:Bl}{w:World}{σ:St}(h:Rel F w σ){b:Nat}{o:Cj}(hb:σ b=some o):b<w.heap.size:=by
 have:=h.obj b o hb;rcases Nat.lt_or_ge b w.heap.size with h'|h'
 ·exact h'
 ·cases o<;>simp[Holds,Array.getElem?_eq_none h']at this
structure Ext(F:Bl)(w:World)(σ:St)(F':Bl)(w':World)(σ':St):Prop where
 keeps:B9 F w F' w'
 os:w'.os=w.os
 tape:w'.tape=w.tape
 output:w'.output=w.output
 size:w.heap.size≤w'.heap.size
 old:∀b,b<w.heap.size→σ b=none→w'.heap[b]? =w.heap[b]? ∧σ' b=none∧F' b=F b
theorem Ext.refl(F:Bl)(w:World)(σ:St):Ext F w σ F w σ:=⟨.refl F w,rfl,rfl,rfl,Nat.le_refl _,fun b _ h=>⟨rfl,h,rfl⟩⟩
theorem Ext.trans{F1 F2 F3:Bl}{w1 w2 w3:World}{σ1 σ2 σ3:St}(h:Ext F1 w1 σ1 F2 w2 σ2)(h':Ext F2 w2 σ2 F3 w3 σ3):Ext F1 w1 σ1 F3 w3 σ3:=
 ⟨h.keeps.trans h'.keeps,h'.os.trans h.os,h'.tape.trans h.tape,h'.output.trans h.output,Nat.le_trans h.size h'.size,fun b hb hs=>by
  obtain⟨h1,h2,h3⟩:=h.old b hb hs;obtain⟨k1,k2,k3⟩:=h'.old b (Nat.lt_of_lt_of_le hb h.size) h2;exact⟨k1.trans h1,k2,k3.trans h3⟩⟩
theorem B9.drew(F:Bl)(w:World):B9 F w F w.drew:=⟨fun _=>Nat.le_refl _,fun _ _ _=>rfl⟩
theorem Ext.drew{F F':Bl}{w w':World}{σ σ':St}(h:Ext F w σ F' w' σ'):Ext F w σ F' w'.drew σ':=
 h.trans ⟨.drew _ _,rfl,rfl,rfl,Nat.le_refl _,fun b _ h=>⟨rfl,h,rfl⟩⟩
theorem Holds.mono{F F':Bl}{w w':World}(hk:B9 F w F' w'){b:Nat}{o:Cj}(h:Holds F w b o)(hb:w'.heap[b]? =w.heap[b]?)(hF:F' b=F b):Holds F' w' b o:=by
 cases o with
 |cells cs=>
  obtain⟨c,e,m,h1,h2,h3,h4,h4',h5⟩:=h;exact⟨c,e,m,hb.trans h1,h2,h3,hF.trans h4,h4',fun j hj=>(h5 j hj).mono hk⟩
 |rows k es frz cap=>
  obtain⟨c,e,m,h1,h2,h3,h4,h5,h6,h7⟩:=h;exact⟨c,e,m,hb.trans h1,h2,h3,h4,h5,hF.trans h6,fun i j hi hj=>(h7 i j hi hj).mono hk⟩
 |map kv=>
  obtain⟨es,clk,h1,h2,h3⟩:=h;exact⟨es,clk,hb.trans h1,hF.trans h2,h3.mono hk⟩
 |loop fr n ps assign body st pend=>
  obtain⟨r,h1,h2,h3,h4,h5,h6,h7,h8,h9,h10⟩:=h;exact⟨r,hb.trans h1,hF.trans h2,h3,h4,h5,h6,h7,h8,h9,fun t ht=>(h10 t ht).mono hk⟩
theorem Rel.drew{F:Bl}{w:World}{σ:St}(h:Rel F w σ):Rel F w.drew σ:=
 ⟨fun b o hb=>(h.obj b o hb).mono (.drew F w) rfl rfl,h.lt⟩
def Fr.up(fr:Fr)(t:Nat)(v:AV):Fr:=fun x=>if x=t then v else fr x
def Fr.put(fr:Fr):Option Nat→AV→Fr
 |some t,v=>fr.up t v
 |none,_=>fr
structure Bc(F:Bl)(w:World)(n:Nat)(fr:Fr)(a:Act):Prop where
 size:a.tmps.size=n
 slot:∀t,t<n→RV F w (fr t) (a.tmps.getD t undef)
theorem Bc.mono{F F':Bl}{w w':World}{n:Nat}{fr:Fr}{a:Act}(hk:B9 F w F' w')(h:Bc F w n fr a):Bc F' w' n fr a:=
 ⟨h.size,fun t ht=>(h.slot t ht).mono hk⟩
theorem Bc.put{F:Bl}{w:World}{n:Nat}{fr:Fr}{a:Act}(h:Bc F w n fr a)(d:Option Nat)(hd:∀t,d=some t→t<n){v:AV}{x:Value}(hv:RV F w v x):Bc F w n (fr.put d v) (a.put d x):=by
 cases d with
 |none=>exact h
 |some t=>
  have ht:=hd t rfl;refine⟨by simpa[Act.put]using h.size,fun s hs=>?_⟩;simp only[Fr.put,Fr.up,Act.put];by_cases hst:s=t
  ·subst hst
   rw[if_pos rfl];simp[Array.getElem?_setIfInBounds,h.size,ht];exact hv
  ·rw[if_neg hst]
   have:=h.slot s hs;simp only[Array.getD_eq_getD_getElem?,Array.getElem?_setIfInBounds]at this⊢;rw[if_neg (by omega)];exact this
def ofConst:Value→AV
 | .agg cs=>.agg (cs.toList.map .v)
 | .tuple cs=>.tup (cs.toList.map .v)
 |x=>.v x
theorem RV.ofConst(F:Bl)(w:World)(x:Value):RV F w (ofConst x) x:=by
 cases x<;>first
  |exact .v _
  |(refine .agg _ _ (by simp) (fun j hj=>?_);simp at hj;simp[List.getD_eq_getElem?_getD,hj];exact .v _)
  |(refine .tup _ _ (by simp) (fun j hj=>?_);simp at hj;simp[List.getD_eq_getElem?_getD,hj];exact .v _)
def Fr.ev(fr:Fr):Operand→AV
 | .tmp t=>fr t
 | .const v=>ofConst v
 | .global g=>.v (.pointer (some ⟨g,0,none⟩))
 | .func f=>.v (.func (.func f) #[] #[])
theorem Bc.ev{F:Bl}{w:World}{n:Nat}{fr:Fr}{a:Act}(h:Bc F w n fr a)(x:Operand)(hx:Bb n x=true):RV F w (fr.ev x) (a.eval x):=by
 cases x with
 |tmp t=>exact h.slot t (by simpa[Bb]using hx)
 |const v=>exact .ofConst F w v
 |global g=>exact .v _
 |func f=>exact .v _
inductive TD where
 |int (k:IntKind)
 |bool
 |str
 |ptr (e:TypeId)
 |sl (esz eby:Nat) (ez:List Value) (byt:Bool)
 |arr (n esz:Nat) (eag:Bool)
 |st (fs:List (Nat×Nat×Bool))
 |map (k e:TypeId)
 |iface
 |other
structure TK where
 ag:Bool
 sz:Nat
 zr:List Value
 td:TD
def Di(P:Program):TypeDesc→TD
 | .int k=>.int k
 | .bool=>.bool
 | .string=>.str
 | .pointer e=>.ptr e
 | .slice e=>match P.info? e with
  |some i=>match i.zero with
   |some z=>if z.cells.size=i.size then .sl i.size i.bytes z.cells.toList (match P.underlying e with|some (.int .u8)=>true|_=>false)else .other
   |none=>.other
  |none=>.other
 | .array n e=>match P.info? e with
  |some i=>match P.underlying e with
   |some d=>.arr n i.size d.isRow
   |none=>.other
  |none=>.other
 | .struct fs=>if fs.toList.all (fun f=>(P.info? f.type).isSome&&(P.underlying f.type).isSome)then .st (fs.toList.map fun f=>(f.offset,P.cellsOf f.type,match P.underlying f.type with|some d=>d.isRow|none=>false))else .other
 | .map k e=>.map k e
 | .interface _=>.iface
 |_=>.other
def Asj:Value→Bool
 | .agg _=>true
 |_=>false
def TK.zav(k:TK):AV:=if k.ag then .agg (k.zr.map .v)else .v (k.zr.headD undef)
def tk(P:Program)(t:TypeId):Option TK:=
 match P.info? t with
 |some i=>match P.underlying t with
  |some d=>match i.zero with
   |some z=>if z.cells.toList.all Value.oneCell'&&(Asj z==d.isRow)then some {ag:=d.isRow,sz:=i.size,zr:=z.cells.toList,td:=Di P d}else none
   |none=>none
  |none=>none
 |none=>none
section
variable{P:Program}
theorem Br{t:TypeId}{k:TK}(h:tk P t=some k):∃i d z,P.info? t=some i∧P.underlying t=some d∧i.zero=some z∧k.ag=d.isRow∧k.sz=i.size∧k.zr=z.cells.toList∧k.td=Di P d∧k.zr.all Value.oneCell'=true:=by
 unfold tk at h;cases hi:P.info? t with
 |none=>simp[hi]at h
 |some i=>
  cases hd:P.underlying t with
  |none=>simp[hi,hd]at h
  |some d=>
   cases hz:i.zero with
   |none=>simp[hi,hd,hz]at h
   |some z=>
    simp only[hi,hd,hz]at h;split at h
    ·rename_i hone
     replace hone:=(Bool.and_eq_true _ _▸hone:_∧_).1
     simp only[Option.some.injEq]at h;subst h;exact⟨i,d,z,rfl,rfl,hz,rfl,rfl,rfl,rfl,hone⟩
    ·cases h
theorem Agd{t:TypeId}{k:TK}(h:tk P t=some k)(F:Bl)(w:World):∃i z,P.info? t=some i∧i.zero=some z∧RV F w k.zav z:=by
 unfold tk at h;cases hi:P.info? t with
 |none=>simp[hi]at h
 |some i=>
  cases hd:P.underlying t with
  |none=>simp[hi,hd]at h
  |some d=>
   cases hz:i.zero with
   |none=>simp[hi,hd,hz]at h
   |some z=>
    simp only[hi,hd,hz]at h;split at h
    ·rename_i hone
     have hag:=(Bool.and_eq_true _ _▸hone:_∧_).2;simp only[Option.some.injEq]at h;subst h;refine⟨i,z,rfl,hz,?_⟩;unfold TK.zav;simp only;rw[beq_iff_eq]at hag;rw[←hag];cases z with
     |agg cs=>exact RV.ofConst F w (.agg cs)
     |_=>exact RV.v _
    ·cases h
theorem V8{t:TypeId}{d:TypeDesc}(h:P.underlying t=some d)(w:World):(isAgg t).run P w= .ok d.isRow w:=by
 unfold isAgg;rw[Sem.run_bind,run_underlying h w];cases d<;>simp[TypeDesc.isRow]
theorem A6{t:TypeId}{i:TypeInfo}(h:P.info? t=some i)(w:World):(sizeOf t).run P w= .ok i.size w:=by
 simp[sizeOf,typeInfo,h]
theorem Eo{t:TypeId}{i:TypeInfo}{z:Value}(h:P.info? t=some i)(hz:i.zero=some z)(w:World):(zeroValue t).run P w= .ok z w:=by
 simp[zeroValue,typeInfo,h,hz]
end
def wd(ro:Option Nat):Fence:={Fence.wide with round:=ro}
theorem J4{P:Program}{o:Oper}{ρ:Operand→Value}{w w':World}{y:Next}(ro:Option Nat)(hr:(execOp ρ o).run P w= .ok y w')(hy:∀d,y≠.defer d):o.semAt ro ρ=execOp ρ o:=
 Oper.semAt_eq _ _ _ fun c hc=>by
  simp only[execOp,hc,Sem.run_bind]at hr;cases hq:(resolve ρ c o.type).run P w with
  |ok d w2=>
   rw[hq]at hr;simp only[Result.andThen_ok,Sem.run_pure]at hr;injection hr with hr _;exact hy _ hr.symm
  |_=>rw[hq]at hr;cases hr
def Yr(P:Program)(f:FuncId)(vs:Array Value):Prop:=
 ∀w,CallsDIn Fence.wide 0 P f vs .returning w fun e u' w'=>(∃v,e= .returned v)∧u'= .returning∧w'=w
def Ad3(P:Program)(d:Deferred):Prop:=
 ∃fv cap f args,d.target= .fn fv cap∧(∀w,(invoke d.target d.args).run P w= .ok (.enter f args) w)∧Yr P f args
def Gk(P:Program)(o:Oper)(a:Act)(F:Bl)(w:World)(σ:St)(k:AV→St→Prop):Prop:=
 ∀(ro:Option Nat) (next:Act→World→Prop) (Q:Exit→Act→World→Prop),(ro=none∨Ph o.op=true)→
  (∀F' w' x v σ' ds,Ext F w σ F' w' σ'→Rel F' w' σ'→RV F' w' v x→k v σ'→(∀d∈ds,Ad3 P d)→next {(a.put o.dst x)with defers:=ds++a.defers} w')→o.wpIn (wd ro) 0 P a w next Q
theorem T6(a:Act)(d:Option Nat)(x:Value):({(a.put d x)with defers:=[]++a.defers}:Act)=a.put d x:=by cases d<;>rfl
theorem Alk(a:Act)(d:Option Nat)(x:Value)(l:List Deferred):({a with defers:=l++a.defers}:Act).put d x={(a.put d x)with defers:=l++a.defers}:=by cases d<;>rfl
section
variable{P:Program}{o:Oper}{a:Act}{F:Bl}{w:World}{σ:St}{k:AV→St→Prop}
theorem Afg{next:Act→World→Prop}(hn:∀F' w' x v σ' ds,Ext F w σ F' w' σ'→Rel F' w' σ'→RV F' w' v x→k v σ'→(∀d∈ds,Ad3 P d)→next {(a.put o.dst x)with defers:=ds++a.defers} w'):
  ∀F' w' x v σ',Ext F w σ F' w' σ'→Rel F' w' σ'→RV F' w' v x→k v σ'→next (a.put o.dst x) w':=fun F' w' x v σ' h1 h2 h3 h4=>by
 have:=hn F' w' x v σ' [] h1 h2 h3 h4 (fun d hd=>by cases hd);rw[T6]at this;exact this
theorem Ba{x:Value}{v:AV}{F':Bl}{w':World}{σ':St}(hr:(execOp a.eval o).run P w= .ok (.value x) w')(he:Ext F w σ F' w' σ')(hs:Rel F' w' σ')(hv:RV F' w' v x)(hk:k v σ'):Gk P o a F w σ k:=by
 intro ro next Q _ hn;refine⟨fun _ _=>trivial,?_⟩;rw[J4 _ hr (fun d h=>by cases h),hr];have:=hn F' w' x v σ' [] he hs hv hk (fun d hd=>by cases hd);rw[T6]at this;exact this
theorem Cl{x:Value}{v:AV}(hs:Rel F w σ)(hr:(execOp a.eval o).run P w= .ok (.value x) w)(hv:RV F w v x)(hk:k v σ):Gk P o a F w σ k:=
 Ba hr (.refl F w σ) hs hv hk
theorem Mm{F':Bl}{w':World}{σ':St}(hr:(execOp a.eval o).run P w= .ok .skip w')(he:Ext F w σ F' w' σ')(hs:Rel F' w' σ')(hk:k (.v undef) σ'):Gk P o a F w σ k:=by
 intro ro next Q _ hn;refine⟨fun _ _=>trivial,?_⟩;rw[J4 _ hr (fun d h=>by cases h),hr];have:=hn F' w' undef (.v undef) σ' [] he hs (.v _) hk (fun d hd=>by cases hd);rw[T6]at this;exact this
end
section
variable{F:Bl}{w:World}{σ:St}
theorem Cc(h:Rel F w σ){b:Nat}(hb:w.heap.size≤b):σ b=none:=by
 cases hs:σ b with
 |none=>rfl
 |some o=>exact absurd (h.lt_size hs) (by omega)
theorem B9.alloc(h:Rel F w σ)(o:Obj):B9 F w F (w.alloc o):=
 ⟨fun _=>Nat.le_refl _,fun b off ho=>by
  have:b<w.heap.size:=by
   rcases Nat.lt_or_ge b w.heap.size with h'|h'
   ·exact h'
   ·have:=h.lt b h';omega
  exact World.cell?_alloc_lt w o _ this⟩
theorem H4(h:Rel F w σ)(o:Obj)(t:Cj)(ht:Holds F (w.alloc o) w.heap.size t):Rel F (w.alloc o) (σ.set w.heap.size t)∧Ext F w σ F (w.alloc o) (σ.set w.heap.size t):=by
 have hkp:=B9.alloc h o;refine⟨⟨fun b x hb=>?_,fun b hb=>h.lt b (by simp at hb;omega)⟩,⟨hkp,rfl,rfl,rfl,by simp,fun b hb hs=>⟨Below.heap_alloc w o b hb,?_,rfl⟩⟩⟩
 ·simp only[St.set]at hb
  by_cases hbb:b=w.heap.size
  ·rw[if_pos hbb]at hb
   injection hb with hb;subst hb;subst hbb;exact ht
  ·rw[if_neg hbb]at hb
   exact(h.obj b x hb).mono hkp (Below.heap_alloc w o b (h.lt_size hb)) rfl
 ·simp only[St.set]
  rw[if_neg (by omega)];exact hs
def Dr(F:Bl)(b n:Nat):Bl:=fun x=>if x=b then n else F x
theorem Qx(h:Rel F w σ)(o:Obj)(n:Nat):B9 F w (Dr F w.heap.size n) (w.alloc o):=
 ⟨fun b=>by
   unfold Dr;split
   ·rename_i hb;rw[hb,h.lt _ (Nat.le_refl _)];exact Nat.zero_le _
   ·exact Nat.le_refl _,(B9.alloc h o).cell⟩
theorem Apl(h:Rel F w σ)(o:Obj)(n:Nat):Rel (Dr F w.heap.size n) (w.alloc o) σ∧Ext F w σ (Dr F w.heap.size n) (w.alloc o) σ:=by
 have hkp:=Qx h o n;refine⟨⟨fun b x hb=>?_,fun b hb=>?_⟩,⟨hkp,rfl,rfl,rfl,by simp,fun b hb hs=>⟨Below.heap_alloc w o b hb,hs,?_⟩⟩⟩
 ·have hlt:=h.lt_size hb
  exact(h.obj b x hb).mono hkp (Below.heap_alloc w o b hlt) (by unfold Dr;rw[if_neg (by omega)])
 ·simp at hb
  unfold Dr;rw[if_neg (by omega)];exact h.lt b (by omega)
 ·unfold Dr
  rw[if_neg (by omega)]
end
theorem Kn(l:List Value)(j:Nat)(hj:j<l.length):(l.map AV.v).getD j (.v undef)= .v (l.getD j undef):=by
 simp[List.getD_eq_getElem?_getD,hj]
theorem RVs.ofVals(F:Bl)(w:World)(l:List Value):RVs F w (l.map .v) l:=⟨by simp,fun j hj=>by
 simp at hj;rw[Kn l j hj];exact .v _⟩
def K4(i:Option TK)(σ:St)(k:AV→St→Prop):Prop:=
 match i with
 |some i=>∀b,σ b=none→k (.v (.pointer (some ⟨b,0,none⟩))) (σ.set b (.cells (i.zr.map .v)))
 |none=>False
def aBox(x:AV)(σ:St)(k:AV→St→Prop):Prop:=x.cells.all AV.one=true∧∀b,σ b=none→k (.v (.pointer (some ⟨b,0,none⟩))) (σ.set b (.cells x.cells))
theorem Vm{F:Bl}{w:World}{σ:St}(h:Rel F w σ){cs:List AV}{vs:Array Value}(e:TypeId)(hv:RVs F w cs vs.toList)(h1:cs.all AV.one=true):Holds F (w.alloc (.cells vs e)) w.heap.size (.cells cs):=by
 have hkp:=B9.alloc h (.cells vs e);have hl:vs.size=cs.length:=by have:=hv.1;simpa using this
 refine⟨vs,e,(0,0),heap_alloc_new w _,hl,fun i _ hi=>by simp at hi,h.lt _ (Nat.le_refl _),h1,fun j hj=>?_⟩;have:=(hv.2 j hj).mono hkp;simpa using this
section
variable{P:Program}{o:Oper}{n:Nat}{fr:Fr}{a:Act}{F:Bl}{w:World}{σ:St}{k:AV→St→Prop}
theorem Aba{e:TypeId}(ho:o.op= .alloc e)(hs:Rel F w σ)(h:K4 (tk P e) σ k):Gk P o a F w σ k:=by
 cases ht:tk P e with
 |none=>simp[ht,K4]at h
 |some i=>
  obtain⟨inf,d,z,h1,h2,h3,h4,h5,h6,h7,h8⟩:=Br ht;simp only[ht,K4]at h;obtain⟨r1,r2⟩:=H4 hs (.cells z.cells e) (.cells (i.zr.map .v)) (Vm hs e (by rw[h6];exact RVs.ofVals F w _) (by rw[List.all_map];exact h8));refine Ba (x:=.pointer (some ⟨w.heap.size,0,none⟩)) ?_ r2 r1 (.v _) (h _ (Cc hs (Nat.le_refl _)));simp[execOp,ho,Instr.alloc,Eo h1 h3,newVar,newRow]
theorem Ah1{e:TypeId}{x:Operand}(ho:o.op= .box e x)(hx:Bb n x=true)(hf:Bc F w n fr a)(hs:Rel F w σ)(h:aBox (fr.ev x) σ k):Gk P o a F w σ k:=by
 have hv:=(hf.ev x hx).cells;obtain⟨r1,r2⟩:=H4 hs (.cells (a.eval x).cells e) (.cells (fr.ev x).cells) (Vm hs e hv h.1);refine Ba (x:=.pointer (some ⟨w.heap.size,0,none⟩)) ?_ r2 r1 (.v _) (h.2 _ (Cc hs (Nat.le_refl _)));simp[execOp,ho,Instr.box,newVar,newRow]
end
def Da(i:Option TK)(σ:St)(p:AV)(k:AV→Prop):Prop:=
 match i with
 |none=>False
 |some i=>match p with
  | .fp cs=>if i.ag then i.sz≤cs.length∧k (.agg (cs.take i.sz))else 0<cs.length∧k (cs.getD 0 (.v undef))
  | .v (.pointer (some ⟨b,o,none⟩))=>match σ b with
   |some (.cells cs)=>if i.ag then o+i.sz≤cs.length∧k (.agg ((cs.drop o).take i.sz))else o<cs.length∧k (cs.getD o (.v undef))
   |_=>False
  | .rp b q j f=>match σ b with
   |some (.rows q' es _ _)=>q'=q∧j<es.length∧(if i.ag then f+i.sz≤q∧k (.agg (((es.getD j []).drop f).take i.sz))else f<q∧k ((es.getD j []).getD f (.v undef)))
   |_=>False
  |_=>False
theorem Ja{P:Program}{w:World}{t:TypeId}{i:TK}(ht:tk P t=some i){F:Bl}{cs:List AV}{b p o:Nat}{c:Nat→Value}
  (hc:∀j,j<cs.length→w.cell? ⟨b,p+j,none⟩=some (c j)) (hr:∀j,j<cs.length→RV F w (cs.getD j (.v undef)) (c j))
  (hag:i.ag=true→o+i.sz≤cs.length) (hna:i.ag=false→o<cs.length):
  ∃x,(Instr.loadAt t (.pointer (some ⟨b,p+o,none⟩))).run P w= .ok x w∧RV F w (if i.ag then .agg ((cs.drop o).take i.sz)else cs.getD o (.v undef)) x:=by
 obtain⟨inf,d,z,h1,h2,h3,h4,h5,h6,h7,h8⟩:=Br ht;cases hg:i.ag with
 |true=>
  have hl:=hag hg;have hvl:(((List.range i.sz).map fun j=>c (o+j)):List Value).length=i.sz:=by simp
  refine⟨.agg ((List.range i.sz).map fun j=>c (o+j)).toArray,?_,?_⟩
  ·refine run_loadAt_mid w b (p+o) t _ d (fun j v hv=>?_) h2 (by rw[←h4,hg]) (by rw[h1,hvl];simp[h5])
   simp only[List.getElem?_map,List.getElem?_range]at hv;have hj:j<i.sz:=by
    rcases Nat.lt_or_ge j i.sz with h|h
    ·exact h
    ·rw[List.getElem?_eq_none (by simpa using h)]at hv;simp at hv
   simp[List.getElem?_range,hj]at hv;subst hv;have:=hc (o+j) (by omega);rwa[←Nat.add_assoc]at this
  ·rw[if_pos rfl]
   refine .agg _ _ (by simp;omega) (fun j hj=>?_);have hj':j<i.sz:=by simp at hj;omega
   have e1:((cs.drop o).take i.sz).getD j (.v undef)=cs.getD (o+j) (.v undef):=by
    simp[List.getD_eq_getElem?_getD,List.getElem?_take,hj',List.getElem?_drop]
   have e2:(((List.range i.sz).map fun j=>c (o+j)).toArray).getD j undef=c (o+j):=by
    simp[hj']
   rw[e1,e2];exact hr (o+j) (by omega)
 |false=>
  have hl:=hna hg;refine⟨c o,?_,by simpa using hr o hl⟩;have ha:=V8 (P:=P) h2 w;rw[←h4,hg]at ha;simp[Instr.loadAt,Instr.sureAddr,loadVar,ha,hc o hl]
section
variable{P:Program}{o:Oper}{n:Nat}{fr:Fr}{a:Act}{F:Bl}{w:World}{σ:St}{k:AV→Prop}
theorem Adq{t:TypeId}{x:Operand}(ho:o.op= .load t x)(hx:Bb n x=true)(hf:Bc F w n fr a)(hs:Rel F w σ)(h:Da (tk P t) σ (fr.ev x) k):Gk P o a F w σ fun v σ'=>σ'=σ∧k v:=by
 cases ht:tk P t with
 |none=>simp[ht,Da]at h
 |some i=>
  have hv:=hf.ev x hx;have fin:∀y v,(Instr.loadAt t (a.eval x)).run P w= .ok y w→RV F w v y→k v→Gk P o a F w σ fun v σ'=>σ'=σ∧k v:=by
   intro y v hr hv hk;refine Cl hs (x:=y) ?_ hv ⟨rfl,hk⟩;simp[execOp,ho,hr]
  simp only[ht,Da]at h;cases hq:fr.ev x with
  |fp cs=>
   rw[hq]at hv h;simp only at h;cases hv':a.eval x with
   |pointer q=>
    rw[hv']at hv;cases hv with
    |fp _ b off c hone hF hc hr=>
     have hag:i.ag=true→0+i.sz≤cs.length:=fun hg=>by rw[if_pos hg]at h;omega
     have hna:i.ag=false→0<cs.length:=fun hg=>by rw[if_neg (by simp[hg])]at h;exact h.1
     obtain⟨y,hy,hyv⟩:=Ja ht (o:=0) hc hr hag hna;refine fin y _ (by rw[hv'];exact hy) hyv ?_;cases hg:i.ag with
     |true=>rw[if_pos hg]at h;simpa using h.2
     |false=>rw[if_neg (by simp[hg])]at h;simpa using h.2
   |_=>rw[hv']at hv;cases hv
  |v q=>
   rw[hq]at hv h;have hv':=hv.eq;cases q with
   |pointer ad=>
    cases ad with
    |none=>simp at h
    |some ad=>
     obtain⟨b,off,sp⟩:=ad;cases sp with
     |some _=>simp at h
     |none=>
      simp only at h;cases hb:σ b with
      |none=>simp[hb]at h
      |some ob=>
       cases ob with
       |rows _ _ _ _=>simp[hb]at h
       |map _=>simp[hb]at h
       |loop _ _ _ _ _ _ _=>simp[hb]at h
       |cells cs=>
        simp only[hb]at h;obtain⟨c,e,m,g1,g2,g3,g4,g4',g5⟩:=hs.obj b _ hb;have hcell:∀j,j<cs.length→w.cell? ⟨b,0+j,none⟩=some (c.getD j undef):=fun j hj=>by
         simp[World.cell?,g1,Array.getD_eq_getD_getElem?,g2,hj]
        have hag:i.ag=true→off+i.sz≤cs.length:=fun hg=>by rw[if_pos hg]at h;exact h.1
        have hna:i.ag=false→off<cs.length:=fun hg=>by rw[if_neg (by simp[hg])]at h;exact h.1
        obtain⟨y,hy,hyv⟩:=Ja ht (o:=off) hcell g5 hag hna;rw[Nat.zero_add]at hy;refine fin y _ (by rw[hv'];exact hy) hyv ?_;cases hg:i.ag with
        |true=>rw[if_pos hg]at h;simpa using h.2
        |false=>rw[if_neg (by simp[hg])]at h;simpa using h.2
   |_=>simp at h
  |rp b q j f=>
   rw[hq]at hv h;cases hv':a.eval x with
   |pointer ad=>
    rw[hv']at hv;cases hv
    simp only at h;cases hb:σ b with
    |none=>simp[hb]at h
    |some ob=>
     cases ob with
     |cells _=>simp[hb]at h
     |map _=>simp[hb]at h
     |loop _ _ _ _ _ _ _=>simp[hb]at h
     |rows q' es frz cap=>
      simp only[hb]at h;obtain⟨rfl,hj,h⟩:=h;obtain⟨c,e,m,g1,g2,g3,g4,g5,g6,g7⟩:=hs.obj b _ hb;have hlen:(es.getD j []).length=q':=by
       rw[List.getD_eq_getElem?_getD,List.getElem?_eq_getElem hj];exact(g4 _ (List.getElem_mem hj)).1
      have hjq:j*q'+q'≤c.size:=by
       have:(j+1)*q'≤cap*q':=Nat.mul_le_mul_right _ (by omega);rw[Nat.succ_mul]at this;omega
      have hcell:∀x,x<(es.getD j []).length→w.cell? ⟨b,j*q'+x,none⟩=some (c.getD (j*q'+x) undef):=fun x hx=>by
       have hlt:j*q'+x<c.size:=by omega
       simp[World.cell?,g1,Array.getD_eq_getD_getElem?,hlt]
      have hag:i.ag=true→f+i.sz≤(es.getD j []).length:=fun hg=>by rw[if_pos hg]at h;omega
      have hna:i.ag=false→f<(es.getD j []).length:=fun hg=>by rw[if_neg (by simp[hg])]at h;omega
      obtain⟨y,hy,hyv⟩:=Ja ht (o:=f) hcell (fun x hx=>g7 j x hj (by omega)) hag hna;refine fin y _ (by rw[hv'];exact hy) hyv ?_;cases hg:i.ag with
      |true=>rw[if_pos hg]at h;simpa using h.2
      |false=>rw[if_neg (by simp[hg])]at h;simpa using h.2
   |_=>rw[hv']at hv;cases hv
  |_=>rw[hq]at h;simp at h
end
theorem Cd(b:Nat):∀(vs:List Value) (o:Nat) (w:World) (x:Nat),x≠b→(w.setCells b o vs).heap[x]? =w.heap[x]?
 | [],_,_,_,_=>rfl
 |v::r,o,w,x,h=>by rw[World.setCells,Cd b r _ _ x h,Below.heap_setCell _ _ _ _ h]
theorem Cw(b:Nat)(e:TypeId)(m:Nat×Nat):∀(vs:List Value) (o:Nat) (w:World) (c:Array Value),w.heap[b]? =some (.cells c e m)→
  ∃c',(w.setCells b o vs).heap[b]? =some (.cells c' e m)∧c'.size=c.size∧∀j,c'.getD j undef=if o≤j∧j<o+vs.length∧j<c.size then vs.getD (j-o) undef else c.getD j undef
 | [],o,w,c,h=>⟨c,h,rfl,fun j=>by rw[if_neg (by simp;omega)]⟩
 |v::r,o,w,c,h=>by
  have h1:(w.setCell ⟨b,o,none⟩ v).heap[b]? =some (.cells (c.setIfInBounds o v) e m):=by
   simp[World.setCell,Array.getElem?_modify,h]
  obtain⟨c',g1,g2,g3⟩:=Cw b e m r (o+1) _ _ h1;refine⟨c',g1,by rw[g2];simp,fun j=>?_⟩;rw[g3 j];simp only[Array.size_setIfInBounds,List.length_cons];by_cases h1:o+1≤j∧j<o+1+r.length∧j<c.size
  ·rw[if_pos h1,if_pos (by omega)]
   rw[show j-o=(j-(o+1))+1 by omega];simp
  ·rw[if_neg h1]
   by_cases hj:j=o
   ·subst hj
    by_cases hlt:j<c.size
    ·rw[if_pos (by omega)]
     simp[Array.getD_eq_getD_getElem?,Array.getElem?_setIfInBounds,hlt]
    ·rw[if_neg (by omega)]
     simp[Array.getD_eq_getD_getElem?,Array.getElem?_setIfInBounds,hlt,Array.getElem?_eq_none (Nat.le_of_not_lt hlt)]
   ·rw[if_neg (by omega)]
    simp only[Array.getD_eq_getD_getElem?,Array.getElem?_setIfInBounds];rw[if_neg (by omega)]
theorem E9(b:Nat):∀(vs:List Value) (o:Nat) (w:World),(w.setCells b o vs).heap.size=w.heap.size
 | [],_,_=>rfl
 |v::r,o,w=>by rw[World.setCells,E9 b r];simp
theorem Jf(b:Nat):∀(vs:List Value) (o:Nat) (w:World),(w.setCells b o vs).os=w.os∧(w.setCells b o vs).tape=w.tape∧(w.setCells b o vs).output=w.output
 | [],_,_=>⟨rfl,rfl,rfl⟩
 |v::r,o,w=>by rw[World.setCells];exact Jf b r _ _
def Az(cs:List AV)(o:Nat)(xs:List AV):List AV:=cs.take o++xs++cs.drop (o+xs.length)
theorem Fb(cs:List AV)(o:Nat)(xs:List AV)(h:o+xs.length≤cs.length):(Az cs o xs).length=cs.length:=by
 simp[Az];omega
theorem Lx(cs:List AV)(o:Nat)(xs:List AV)(h:o+xs.length≤cs.length)(j:Nat)(d:AV):
  (Az cs o xs).getD j d=if o≤j∧j<o+xs.length then xs.getD (j-o) d else cs.getD j d:=by
 simp only[Az,List.getD_eq_getElem?_getD];by_cases h1:j<o
 ·rw[if_neg (by omega),List.append_assoc,List.getElem?_append_left (by simp;omega),List.getElem?_take_of_lt h1]
 ·by_cases h2:j<o+xs.length
  ·rw[if_pos (by omega),List.append_assoc,List.getElem?_append_right (by simp;omega)]
   have:(cs.take o).length=o:=by simp;omega
   rw[this,List.getElem?_append_left (by omega)]
  ·rw[if_neg (by omega),List.getElem?_append_right (by simp;omega)]
   have:(cs.take o++xs).length=o+xs.length:=by simp;omega
   rw[this,List.getElem?_drop]
   congr 2
   omega
theorem Ue(cs:List AV)(o:Nat)(xs:List AV)(h1:cs.all AV.one=true)(h2:xs.all AV.one=true):(Az cs o xs).all AV.one=true:=by
 simp only[Az,List.all_append,Bool.and_eq_true];exact⟨⟨List.all_eq_true.2 fun x hx=>List.all_eq_true.1 h1 x (List.mem_of_mem_take hx),h2⟩,List.all_eq_true.2 fun x hx=>List.all_eq_true.1 h1 x (List.mem_of_mem_drop hx)⟩
def Gq(i:Option TK)(σ:St)(p x:AV)(k:St→Prop):Prop:=
 match i with
 |none=>False
 |some i=>x.cells.length=i.sz∧x.cells.all AV.one=true∧match p with
  | .v (.pointer (some ⟨b,o,none⟩))=>match σ b with
   |some (.cells cs)=>o+i.sz≤cs.length∧k (σ.set b (.cells (Az cs o x.cells)))
   |_=>False
  | .rp b q j f=>match σ b with
   |some (.rows q' es false cap)=>q'=q∧j<es.length∧f+i.sz≤q∧k (σ.set b (.rows q (es.set j (Az (es.getD j []) f x.cells)) false cap))
   |_=>False
  |_=>False
section
variable{P:Program}{o:Oper}{n:Nat}{fr:Fr}{a:Act}{F:Bl}{w:World}{σ:St}{k:St→Prop}
theorem H7(hs:Rel F w σ){b:Nat}{t:Cj}(hb:σ b=some t)(hF:F b=0)(p:Nat)(vs:List Value)(t':Cj)(ht:B9 F w F (w.setCells b p vs)→Holds F (w.setCells b p vs) b t'):
  Rel F (w.setCells b p vs) (σ.set b t')∧Ext F w σ F (w.setCells b p vs) (σ.set b t'):=by
 have hkp:B9 F w F (w.setCells b p vs):=⟨fun _=>Nat.le_refl _,fun x off ho=>by
  have hne:x≠b:=fun e=>by subst e;omega
  exact World.cell?_of_block (w:=w) (Cd b vs p w x hne)⟩
 obtain⟨e1,e2,e3⟩:=Jf b vs p w;refine⟨⟨fun x y hx=>?_,fun x hx=>hs.lt x (by rw[E9]at hx;exact hx)⟩,⟨hkp,e1,e2,e3,by rw[E9];exact Nat.le_refl _,fun x hx hn=>?_⟩⟩
 ·simp only[St.set]at hx
  by_cases hxb:x=b
  ·rw[if_pos hxb]at hx
   injection hx with hx;subst hx;subst hxb;exact ht hkp
  ·rw[if_neg hxb]at hx
   exact(hs.obj x y hx).mono hkp (Cd b vs p w x hxb) rfl
 ·have hne:x≠b:=fun e=>by subst e;simp[hb]at hn
  exact⟨Cd b vs p w x hne,by simp[St.set,hne,hn],rfl⟩
theorem Pt{t:TypeId}{i:TK}(ht:tk P t=some i){b p:Nat}{x:Value}(hl:x.cells.size=i.sz)(hone:∀v∈x.cells.toList,v.oneCell'=true)(hth:w.there b p i.sz):
  (Instr.storeAt t (.pointer (some ⟨b,p,none⟩)) x).run P w= .ok () (w.setCells b p x.cells.toList):=by
 obtain⟨inf,d,z,h1,h2,h3,h4,h5,h6,h7,h8⟩:=Br ht;have:=run_storeCells_cells (P:=P) b p x.cells.toList 0 w (fun j hj=>by simpa using(hth j (by simp at hj;omega)).1) (fun j hj=>by simpa using(hth j (by simp at hj;omega)).2) hone;simp only[Nat.add_zero]at this;simp[Instr.storeAt,Instr.sureAddr,storeVar,A6 h1,hl,h5,this]
theorem Ac3{cs:List AV}{vs:List Value}(h:RVs F w cs vs)(h1:cs.all AV.one=true):∀v∈vs,v.oneCell'=true:=by
 intro v hv;obtain⟨j,hj,rfl⟩:=List.getElem_of_mem hv;have hj':j<cs.length:=by rw[←h.1];exact hj
 have h2:=h.2 j hj';have e:vs.getD j undef=vs[j]:=by simp[List.getD_eq_getElem?_getD,hj]
 rw[e]at h2;refine h2.one ?_;have:cs.getD j (.v undef)=cs[j]:=by simp[List.getD_eq_getElem?_getD,hj']
 rw[this];exact(List.all_eq_true.1 h1) _ (List.getElem_mem hj')
theorem Abf{t:TypeId}{x y:Operand}(ho:o.op= .store t x y)(hx:Bb n x=true)(hy:Bb n y=true)(hf:Bc F w n fr a)(hs:Rel F w σ)(h:Gq (tk P t) σ (fr.ev x) (fr.ev y) k):Gk P o a F w σ fun v σ'=>v= .v undef∧k σ':=by
 cases ht:tk P t with
 |none=>simp[ht,Gq]at h
 |some i=>
  have hv:=hf.ev x hx;have hyc:=(hf.ev y hy).cells;simp only[ht,Gq]at h;obtain⟨hl,hone,h⟩:=h;have hl':(a.eval y).cells.size=i.sz:=by have:=hyc.1;simp at this;omega
  have hone':=Ac3 hyc hone;cases hq:fr.ev x with
  |v q=>
   rw[hq]at hv h;have hv':=hv.eq;cases q with
   |pointer ad=>
    cases ad with
    |none=>simp at h
    |some ad=>
     obtain⟨b,off,sp⟩:=ad;cases sp with
     |some _=>simp at h
     |none=>
      simp only at h;cases hb:σ b with
      |none=>simp[hb]at h
      |some ob=>
       cases ob with
       |rows _ _ _ _=>simp[hb]at h
       |map _=>simp[hb]at h
       |loop _ _ _ _ _ _ _=>simp[hb]at h
       |cells cs=>
        simp only[hb]at h;obtain⟨c,e,m,g1,g2,g3,g4,g4',g5⟩:=hs.obj b _ hb;have hth:w.there b off i.sz:=fun j hj=>by
         have hlt:off+j<c.size:=by omega
         refine⟨by simp[World.cell?,g1,hlt],?_⟩;have:=g3 (off+j) hlt;simp only[World.frozen?,g1];simpa using this
        have hr:=Pt ht (x:=a.eval y) hl' hone' hth;obtain⟨c',k1,k2,k3⟩:=Cw b e m (a.eval y).cells.toList off w c g1
        obtain⟨r1,r2⟩:=H7 hs hb g4 off (a.eval y).cells.toList (.cells (Az cs off (fr.ev y).cells)) (fun hkp=>
         ⟨c',e,m,k1,by rw[k2,g2,Fb _ _ _ (by omega)],by rw[k2];exact g3,g4,Ue _ _ _ g4' hone,fun j hj=>by
          rw[Fb _ _ _ (by omega)]at hj;rw[Lx _ _ _ (by omega),k3 j];by_cases hin:off≤j∧j<off+(fr.ev y).cells.length
          ·rw[if_pos hin,if_pos (by rw[hyc.1];omega)]
           exact(hyc.2 (j-off) (by omega)).mono hkp
          ·rw[if_neg hin,if_neg (by rw[hyc.1];omega)]
           exact(g5 j hj).mono hkp⟩)
        refine Mm ?_ r2 r1 ⟨rfl,h.2⟩;simp[execOp,ho,hv',hr]
   |_=>simp at h
  |rp b q j f=>
   rw[hq]at hv h;cases hv':a.eval x with
   |pointer ad=>
    rw[hv']at hv;cases hv
    simp only at h;cases hb:σ b with
    |none=>simp[hb]at h
    |some ob=>
     cases ob with
     |cells _=>simp[hb]at h
     |map _=>simp[hb]at h
     |loop _ _ _ _ _ _ _=>simp[hb]at h
     |rows q' es frz cap=>
      cases frz with
      |true=>simp[hb]at h
      |false=>
       simp only[hb]at h;obtain⟨rfl,hj,hfq,h⟩:=h;obtain⟨c,e,m,g1,g2,g3,g4,g5,g6,g7⟩:=hs.obj b _ hb;have hlen:(es.getD j []).length=q':=by
        rw[List.getD_eq_getElem?_getD,List.getElem?_eq_getElem hj];exact(g4 _ (List.getElem_mem hj)).1
       have hjq:j*q'+q'≤c.size:=by
        have:(j+1)*q'≤cap*q':=Nat.mul_le_mul_right _ (by omega);rw[Nat.succ_mul]at this;omega
       have hF0:F b=0:=by rw[g6];rfl
       have hone1:(es.getD j []).all AV.one=true:=by
        rw[List.getD_eq_getElem?_getD,List.getElem?_eq_getElem hj];exact(g4 _ (List.getElem_mem hj)).2
       have hth:w.there b (j*q'+f) i.sz:=fun x hx=>by
        have hlt:j*q'+f+x<c.size:=by omega
        refine⟨by simp[World.cell?,g1,hlt],?_⟩;have:=g5 (j*q'+f+x) (.inl hlt);simp only[World.frozen?,g1];simpa using this
       have hr:=Pt ht (x:=a.eval y) hl' hone' hth;obtain⟨c',k1,k2,k3⟩:=Cw b e m (a.eval y).cells.toList (j*q'+f) w c g1
       obtain⟨r1,r2⟩:=H7 hs hb hF0 (j*q'+f) (a.eval y).cells.toList (.rows q' (es.set j (Az (es.getD j []) f (fr.ev y).cells)) false cap) (fun hkp=>
        ⟨c',e,m,k1,by rw[k2];exact g2,by simpa using g3,fun e' he'=>by
          rcases List.mem_or_eq_of_mem_set he' with h'|rfl
          ·exact g4 e' h'
          ·exact⟨by rw[Fb _ _ _ (by omega),hlen],Ue _ _ _ hone1 hone⟩,by rw[k2];exact g5,by rw[g6];rfl,fun x y' hx hy'=>by
          simp only[List.length_set]at hx;rw[k3];by_cases hxj:x=j
          ·subst hxj
           have e1:(es.set x (Az (es.getD x []) f (fr.ev y).cells)).getD x []=Az (es.getD x []) f (fr.ev y).cells:=by
            simp[List.getD_eq_getElem?_getD,hj]
           rw[e1,Lx _ _ _ (by omega)];by_cases hin:f≤y'∧y'<f+(fr.ev y).cells.length
           ·rw[if_pos hin,if_pos (by rw[hyc.1];omega)]
            rw[show x*q'+y'-(x*q'+f)=y'-f by omega];exact(hyc.2 (y'-f) (by omega)).mono hkp
           ·rw[if_neg hin,if_neg (by rw[hyc.1];omega)]
            exact(g7 x y' hx hy').mono hkp
          ·have e1:(es.set j (Az (es.getD j []) f (fr.ev y).cells)).getD x []=es.getD x []:=by
            simp[List.getD_eq_getElem?_getD,List.getElem?_set,Ne.symm hxj]
           rw[e1,if_neg ?_]
           ·exact(g7 x y' hx hy').mono hkp
           ·rw[hyc.1]
            intro hcon;rcases Nat.lt_or_gt_of_ne hxj with hlt|hgt
            ·have:(x+1)*q'≤j*q':=Nat.mul_le_mul_right _ (by omega)
             rw[Nat.succ_mul]at this;omega
            ·have:(j+1)*q'≤x*q':=Nat.mul_le_mul_right _ (by omega)
             rw[Nat.succ_mul]at this;omega⟩)
       refine Mm ?_ r2 r1 ⟨rfl,h⟩;simp[execOp,ho,hv',hr]
   |_=>rw[hv']at hv;cases hv
  |_=>rw[hq]at h;simp at h
end
section
variable{P:Program}{o:Oper}{n:Nat}{fr:Fr}{a:Act}{F:Bl}{w:World}{σ:St}{k:AV→Prop}
def D8(P:Program)(o:Oper)(a:Act)(F:Bl)(w:World)(k:AV→Prop):Prop:=∃x v,(execOp a.eval o).run P w= .ok (.value x) w∧RV F w v x∧k v
theorem D8.ok(h:D8 P o a F w k)(hs:Rel F w σ):Gk P o a F w σ fun v σ'=>σ'=σ∧k v:=by
 obtain⟨x,v,hr,hv,hk⟩:=h;exact Cl hs hr hv ⟨rfl,hk⟩
theorem Zk{cs:List AV}(h:cs.all AV.one=true)(j:Nat):(cs.drop j).all AV.one=true:=List.all_eq_true.2 fun x hx=>List.all_eq_true.1 h x (List.mem_of_mem_drop hx)
def Qb(x:AV)(k:AV→Prop):Prop:=
 match x with
 | .v (.pointer (some a))=>k (.v (.pointer (some a)))
 | .v (.func (.func f) x y)=>k (.v (.func (.func f) x y))
 | .v (.func (.yield f) x y)=>k (.v (.func (.yield f) x y))
 | .fp cs=>k (.fp cs)
 | .rp b q i f=>k (.rp b q i f)
 |_=>False
theorem Ah6{x:Operand}(ho:o.op= .nilCheck x)(hx:Bb n x=true)(hf:Bc F w n fr a)(h:Qb (fr.ev x) k):D8 P o a F w k:=by
 have hv:=hf.ev x hx;revert h hv;generalize fr.ev x=q;intro h hv;unfold Qb at h;split at h
 ·have e:=hv.eq
  exact⟨_,_,by simp[execOp,ho,e],.v _,h⟩
 ·have e:=hv.eq
  exact⟨_,_,by simp[execOp,ho,e],.v _,h⟩
 ·have e:=hv.eq
  exact⟨_,_,by simp[execOp,ho,e],.v _,h⟩
 ·cases e:a.eval x with
  |pointer q=>
   rw[e]at hv;refine⟨a.eval x,_,?_,by rw[e];exact hv,h⟩;cases hv
   simp[execOp,ho,e]
  |_=>rw[e]at hv;cases hv
 ·cases e:a.eval x with
  |pointer q=>
   rw[e]at hv;refine⟨a.eval x,_,?_,by rw[e];exact hv,h⟩;cases hv
   simp[execOp,ho,e]
  |_=>rw[e]at hv;cases hv
 ·exact h.elim
def I3(i:Option TK)(f:Nat)(x:AV)(k:AV→Prop):Prop:=
 match i with
 |some i=>match i.td with
  | .st fs=>match fs[f]? with
   |some (off,sz,_)=>0<sz∧match x with
    | .v (.pointer (some ⟨b,p,none⟩))=>k (.v (.pointer (some ⟨b,p+off,none⟩)))
    | .fp cs=>off≤cs.length∧k (.fp (cs.drop off))
    | .rp b q j g=>k (.rp b q j (g+off))
    |_=>False
   |none=>False
  |_=>False
 |none=>False
theorem Al3{d:TypeDesc}{fs:List (Nat×Nat×Bool)}(h:Di P d= .st fs):∃gs,d= .struct gs∧(∀(j:Nat) (f:Field),gs[j]? =some f→∃i e,P.info? f.type=some i∧P.underlying f.type=some e∧fs[j]? =some (f.offset,i.size,e.isRow))∧(∀j:Nat,fs[j]?.isSome=true→gs[j]?.isSome=true):=by
 cases d with
 |struct gs=>
  simp only[Di]at h;split at h
  ·rename_i hall
   injection h with h;subst h;refine⟨gs,rfl,fun j f hj=>?_,fun j hj=>?_⟩
   ·have hmem:f∈gs.toList:=by
     have:=Array.mem_of_getElem? hj;simpa using this
    have h2:=(List.all_eq_true.1 hall) f hmem;simp only[Bool.and_eq_true]at h2;obtain⟨i,hi⟩:=Option.isSome_iff_exists.1 h2.1;obtain⟨e,he⟩:=Option.isSome_iff_exists.1 h2.2;refine⟨i,e,hi,he,?_⟩;have:gs.toList[j]? =some f:=by simpa using hj
    simp[this,he,Program.cellsOf,hi]
   ·simp only[List.getElem?_map]at hj
    simpa using hj
  ·cases h
 |slice e=>simp only[Di]at h;(repeat' split at h)<;>cases h
 |array n e=>simp only[Di]at h;(repeat' split at h)<;>cases h
 |_=>simp[Di]at h
theorem Ub{s f:Nat}{gs:Array Field}{g:Field}{i:TypeInfo}(hu:P.underlying s=some (.struct gs))(hg:gs[f]? =some g)(hi:P.info? g.type=some i)(h0:0<i.size)(ad:Addr):
  (Instr.fieldAt s (.pointer (some ad)) f).run P w= .ok (.pointer (some (ad.add g.offset))) w:=by
 have:i.size≠0:=by omega
 simp[Instr.fieldAt,run_underlying hu,hg,Instr.sureAddr,fieldPlace,A6 hi,this]
theorem Ado{s f:Nat}{x:Operand}(ho:o.op= .fieldAddr s x f)(hx:Bb n x=true)(hf:Bc F w n fr a)(h:I3 (tk P s) f (fr.ev x) k):D8 P o a F w k:=by
 cases ht:tk P s with
 |none=>simp[ht,I3]at h
 |some i=>
  obtain⟨inf,d,z,h1,h2,h3,h4,h5,h6,h7,h8⟩:=Br ht;simp only[ht,I3]at h;cases htd:i.td with
  |st fs=>
   simp only[htd]at h;obtain⟨gs,rfl,hgs,hgn⟩:=Al3 (P:=P) (by rw[←h7,htd]);cases hfs:fs[f]? with
   |none=>simp[hfs]at h
   |some q=>
    obtain⟨off,sz,ag⟩:=q;simp only[hfs]at h;obtain⟨g,hg⟩:=Option.isSome_iff_exists.1 (hgn f (by simp[hfs]));obtain⟨j,e,hj,he,hjf⟩:=hgs f g hg;rw[hfs]at hjf;simp only[Option.some.injEq,Prod.mk.injEq]at hjf;obtain⟨rfl,rfl,rfl⟩:=hjf;have hrun:=fun ad=>Ub (w:=w) h2 hg hj h.1 ad;have hv:=hf.ev x hx;have h':=h.2;clear h;revert h' hv;generalize fr.ev x=q;intro hv h';unfold D8 execOp;simp only[ho];split at h'
    ·rename_i b p
     have e1:=hv.eq;refine⟨_,_,?_,.v _,h'⟩;rw[e1];simp[hrun,Addr.add_mid]
    ·rename_i cs
     cases e1:a.eval x with
     |pointer ad=>
      rw[e1]at hv;cases hv with
      |fp _ b p c hone hF hc hr=>
       refine⟨.pointer (some ⟨b,p+g.offset,none⟩),_,by simp[hrun,Addr.add_mid],?_,h'.2⟩;refine .fp _ b (p+g.offset) (fun y=>c (g.offset+y)) (Zk hone _) (by simp;omega) (fun y hy=>?_) (fun y hy=>?_)
       ·simp at hy
        rw[Nat.add_assoc];exact hc _ (by omega)
       ·simp at hy
        have:=hr (g.offset+y) (by omega);simpa[List.getD_eq_getElem?_getD,List.getElem?_drop]using this
     |_=>rw[e1]at hv;cases hv
    ·rename_i b q' j' g'
     cases e1:a.eval x with
     |pointer ad=>
      rw[e1]at hv;cases hv
      refine⟨.pointer (some ⟨b,j'*q'+(g'+g.offset),none⟩),_,?_,.rp _ _ _ _,h'⟩;simp[hrun,Addr.add_mid,Nat.add_assoc]
     |_=>rw[e1]at hv;cases hv
    ·exact h'.elim
  |_=>simp[htd]at h
def Kw(ag:Bool)(off sz:Nat)(cs:List AV)(k:AV→Prop):Prop:=if ag then off+sz≤cs.length∧k (.agg ((cs.drop off).take sz))else off<cs.length∧k (cs.getD off (.v undef))
theorem Rm{t:TypeId}{i:TypeInfo}{d:TypeDesc}(hi:P.info? t=some i)(hd:P.underlying t=some d){cs:List AV}{vs:Array Value}(off:Nat)
  (hl:vs.size=cs.length) (hr:∀j,j<cs.length→RV F w (cs.getD j (.v undef)) (vs.getD j undef)) (h:Kw d.isRow off i.size cs k):
  ∃x v,(part t vs off).run P w= .ok x w∧RV F w v x∧k v:=by
 have ha:=V8 (P:=P) hd w;unfold Kw at h;cases hg:d.isRow with
 |true=>
  rw[hg]at ha;rw[if_pos hg]at h;refine⟨.agg (vs.extract off (off+i.size)),_,by simp[part,ha,A6 hi],.agg _ _ (by simp;omega) (fun j hj=>?_),h.2⟩;have hj':j<i.size:=by simp at hj;omega
  have:=hr (off+j) (by omega);have e1:((cs.drop off).take i.size).getD j (.v undef)=cs.getD (off+j) (.v undef):=by
   simp[List.getD_eq_getElem?_getD,List.getElem?_take,hj',List.getElem?_drop]
  have e2:(vs.extract off (off+i.size)).getD j undef=vs.getD (off+j) undef:=by
   simp only[Array.getD_eq_getD_getElem?,Array.getElem?_extract];rw[if_pos (by omega)]
  rw[e1,e2];exact this
 |false=>
  rw[hg]at ha;rw[if_neg (by simp[hg])]at h;have hlt:off<vs.size:=by omega
  refine⟨vs.getD off undef,_,?_,hr off h.1,h.2⟩;simp[part,ha,hlt]
def N1(i:Option TK)(f:Nat)(x:AV)(k:AV→Prop):Prop:=
 match i with
 |some i=>match i.td with
  | .st fs=>match fs[f]? with
   |some (off,sz,ag)=>match x with
    | .agg cs=>Kw ag off sz cs k
    |_=>False
   |none=>False
  |_=>False
 |none=>False
theorem Ah3{s f:Nat}{x:Operand}(ho:o.op= .field s x f)(hx:Bb n x=true)(hf:Bc F w n fr a)(h:N1 (tk P s) f (fr.ev x) k):D8 P o a F w k:=by
 cases ht:tk P s with
 |none=>simp[ht,N1]at h
 |some i=>
  obtain⟨inf,d,z,h1,h2,h3,h4,h5,h6,h7,h8⟩:=Br ht;simp only[ht,N1]at h;cases htd:i.td with
  |st fs=>
   simp only[htd]at h;obtain⟨gs,rfl,hgs,hgn⟩:=Al3 (P:=P) (by rw[←h7,htd]);cases hfs:fs[f]? with
   |none=>simp[hfs]at h
   |some q=>
    obtain⟨off,sz,ag⟩:=q;simp only[hfs]at h;obtain⟨g,hg⟩:=Option.isSome_iff_exists.1 (hgn f (by simp[hfs]));obtain⟨j,e,hj,he,hjf⟩:=hgs f g hg;rw[hfs]at hjf;simp only[Option.some.injEq,Prod.mk.injEq]at hjf;obtain⟨rfl,rfl,rfl⟩:=hjf;have hv:=hf.ev x hx;cases hq:fr.ev x with
    |agg cs=>
     rw[hq]at h hv;simp only at h;cases e1:a.eval x with
     |agg vs=>
      rw[e1]at hv;cases hv with
      |agg _ _ hl hr=>
       obtain⟨y,v,r1,r2,r3⟩:=Rm hj he g.offset hl hr h;refine⟨y,v,?_,r2,r3⟩;simp[execOp,ho,e1,Instr.field,run_underlying h2,hg,asAgg,r1]
     |_=>rw[e1]at hv;cases hv
    |_=>rw[hq]at h;simp at h
  |_=>simp[htd]at h
def Fs(i:Option TK)(σ:St)(x ix:AV)(k:AV→Prop):Prop:=
 match i with
 |some i=>match ix with
  | .v (.int _ j)=>match i.td with
   | .arr m esz _=>match x with
    | .v (.pointer (some ⟨b,p,none⟩))=>0≤j∧j<m∧k (.v (.pointer (some ⟨b,p+j.toNat*esz,none⟩)))
    | .fp cs=>0≤j∧j<m∧j.toNat*esz≤cs.length∧k (.fp (cs.drop (j.toNat*esz)))
    | .rp b q r f=>0≤j∧j<m∧k (.rp b q r (f+j.toNat*esz))
    |_=>False
   | .sl esz _ _ _=>match x with
    | .sl q es=>q=esz∧0≤j∧j<es.length∧k (.fp (es.getD j.toNat []))
    | .fsl q es=>q=esz∧0≤j∧j<es.length∧k (.fp (es.getD j.toNat []))
    | .v (.slice (some ⟨b,p,none⟩) n _)=>p % esz=0∧0≤j∧j<n∧k (.rp b esz (p/esz+j.toNat) 0)
    |_=>False
   |_=>False
  |_=>False
 |none=>False
theorem Yk{d:TypeDesc}{m esz:Nat}{ag:Bool}(h:Di P d= .arr m esz ag):∃e i g,d= .array m e∧P.info? e=some i∧i.size=esz∧P.underlying e=some g∧g.isRow=ag:=by
 cases d with
 |array n e=>
  simp only[Di]at h;split at h
  ·rename_i i hi
   split at h
   ·rename_i g hg
    injection h with h1 h2 h3;subst h1;exact⟨e,i,g,rfl,hi,h2,hg,h3⟩
   ·cases h
  ·cases h
 |slice e=>simp only[Di]at h;(repeat' split at h)<;>cases h
 |struct e=>simp only[Di]at h;(repeat' split at h)<;>cases h
 |_=>simp[Di]at h
theorem J7{d:TypeDesc}{esz eby:Nat}{ez:List Value}{byt:Bool}(h:Di P d= .sl esz eby ez byt):∃e i z,d= .slice e∧P.info? e=some i∧i.size=esz∧i.bytes=eby∧i.zero=some z∧z.cells.toList=ez∧z.cells.size=i.size∧(byt=true→P.underlying e=some (.int .u8)):=by
 cases d with
 |slice e=>
  simp only[Di]at h;split at h
  ·rename_i i hi
   split at h
   ·rename_i z hz
    split at h
    ·rename_i hsz
     injection h with h1 h2 h3 h4;refine⟨e,i,z,rfl,hi,h1,h2,hz,h3,hsz,fun hb=>?_⟩;subst hb;split at h4
     ·assumption
     ·cases h4
    ·cases h
   ·cases h
  ·cases h
 |array n e=>simp only[Di]at h;(repeat' split at h)<;>cases h
 |struct e=>simp only[Di]at h;(repeat' split at h)<;>cases h
 |_=>simp[Di]at h
theorem X7{t e:TypeId}{m:Nat}{i:TypeInfo}(hu:P.underlying t=some (.array m e))(hi:P.info? e=some i)(ad:Addr)(kk:IntKind)(j:Int)(h0:0≤j)(h1:j<m):
  (Instr.indexAt t (.pointer (some ad)) (.int kk j)).run P w= .ok (.pointer (some (ad.add (j.toNat*i.size)))) w:=by
 simp[Instr.indexAt,asIntOf,run_underlying hu,Instr.sureAddr,h0,h1,A6 hi]
theorem Aa4{t e:TypeId}{i:TypeInfo}(hu:P.underlying t=some (.slice e))(hi:P.info? e=some i)(ad:Addr)(len cap:Nat)(kk:IntKind)(j:Int)(h0:0≤j)(h1:j<len):
  (Instr.indexAt t (.slice (some ad) len cap) (.int kk j)).run P w= .ok (.pointer (some (ad.add (j.toNat*i.size)))) w:=by
 simp[Instr.indexAt,asIntOf,run_underlying hu,Instr.sureAddr,h0,h1,A6 hi]
theorem Aew{q:Nat}{es:List (List AV)}{b p:Nat}{c:Nat→Value}(hk:∀e∈es,e.length=q∧e.all AV.one=true)(hF:p+es.length*q≤F b)(hc:∀j,j<es.length*q→w.cell? ⟨b,p+j,none⟩=some (c j))
  (hr:∀i j,i<es.length→j<q→RV F w ((es.getD i []).getD j (.v undef)) (c (i*q+j))) {r:Nat} (hlt:r<es.length):RV F w (.fp (es.getD r [])) (.pointer (some ⟨b,p+r*q,none⟩)):=by
 have hlen:(es.getD r []).length=q:=by
  rw[List.getD_eq_getElem?_getD,List.getElem?_eq_getElem hlt];exact(hk _ (List.getElem_mem hlt)).1
 have hone:(es.getD r []).all AV.one=true:=by
  rw[List.getD_eq_getElem?_getD,List.getElem?_eq_getElem hlt];exact(hk _ (List.getElem_mem hlt)).2
 have hle:r*q+q≤es.length*q:=by rw[←Nat.succ_mul];exact Nat.mul_le_mul_right _ hlt
 refine .fp _ b _ (fun y=>c (r*q+y)) hone (by omega) (fun y hy=>?_) (fun y hy=>?_)
 ·rw[Nat.add_assoc]
  exact hc _ (by omega)
 ·exact hr _ _ hlt (by omega)
theorem Adp{t:TypeId}{x ix:Operand}(ho:o.op= .indexAddr t x ix)(hx:Bb n x=true)(hix:Bb n ix=true)(hf:Bc F w n fr a)(h:Fs (tk P t) σ (fr.ev x) (fr.ev ix) k):D8 P o a F w k:=by
 cases ht:tk P t with
 |none=>simp[ht,Fs]at h
 |some i=>
  obtain⟨inf,d,z,h1,h2,h3,h4,h5,h6,h7,h8⟩:=Br ht;simp only[ht,Fs]at h;have hv:=hf.ev x hx;have hiv:=hf.ev ix hix;cases hqi:fr.ev ix with
  |v q=>
   rw[hqi]at hiv h;have eiv:=hiv.eq;cases q with
   |int kk j=>
    simp only at h;have hgo:∀y,(Instr.indexAt t (a.eval x) (.int kk j)).run P w= .ok y w→(execOp a.eval o).run P w= .ok (.value y) w:=fun y hy=>by
     simp[execOp,ho,eiv,hy]
    unfold D8;cases htd:i.td with
    |arr m esz ag=>
     obtain⟨e,ie,g,rfl,k1,rfl,k3,k4⟩:=Yk (P:=P) (by rw[←h7,htd]);simp only[htd]at h;have hrun:=fun ad h0 h1=>X7 (w:=w) h2 k1 ad kk j h0 h1;revert h hv;generalize fr.ev x=q;intro hv h;split at h
     ·rename_i b p
      have e1:=hv.eq;refine⟨_,_,hgo _ (by rw[e1];exact hrun _ h.1 h.2.1),?_,h.2.2⟩;rw[Addr.add_mid];exact .v _
     ·rename_i cs
      cases e1:a.eval x with
      |pointer ad=>
       rw[e1]at hv;cases hv with
       |fp _ b p c hone hF hc hr=>
        refine⟨_,_,hgo _ (by rw[e1];exact hrun _ h.1 h.2.1),?_,h.2.2.2⟩;rw[Addr.add_mid];refine .fp _ b _ (fun y=>c (j.toNat*ie.size+y)) (Zk hone _) (by simp;omega) (fun y hy=>?_) (fun y hy=>?_)
        ·simp at hy
         rw[Nat.add_assoc];exact hc _ (by omega)
        ·simp at hy
         have:=hr (j.toNat*ie.size+y) (by omega);simpa[List.getD_eq_getElem?_getD,List.getElem?_drop]using this
      |_=>rw[e1]at hv;cases hv
     ·rename_i b q' r f
      cases e1:a.eval x with
      |pointer ad=>
       rw[e1]at hv;cases hv
       refine⟨_,_,hgo _ (by rw[e1];exact hrun _ h.1 h.2.1),?_,h.2.2⟩;rw[Addr.add_mid,Nat.add_assoc];exact .rp _ _ _ _
      |_=>rw[e1]at hv;cases hv
     ·exact h.elim
    |sl esz eby ez byt=>
     obtain⟨e,ie,ze,rfl,k1,rfl,k3,k4,k5,k6,k7⟩:=J7 (P:=P) (by rw[←h7,htd]);simp only[htd]at h;have hrun:=fun ad len cap h0 h1=>Aa4 (w:=w) h2 k1 ad len cap kk j h0 h1;revert h hv;generalize fr.ev x=q;intro hv h;split at h
     ·rename_i q' es
      obtain⟨rfl,h0,hlt,h⟩:=h;have hlt':j.toNat<es.length:=by omega
      cases e1:a.eval x with
      |slice ad len cap=>
       rw[e1]at hv;cases hv with
       |sl0 _ _ _=>simp at hlt;omega
       |sl _ _ b p c _ _ hn hk hcap hF hc hr=>
        refine⟨_,_,hgo _ (by rw[e1];exact hrun _ _ _ h0 (by omega)),?_,h⟩;rw[Addr.add_mid];exact Aew hk hF hc hr hlt'
      |_=>rw[e1]at hv;cases hv
     ·rename_i q' es
      obtain⟨rfl,h0,hlt,h⟩:=h;have hlt':j.toNat<es.length:=by omega
      cases e1:a.eval x with
      |slice ad len cap=>
       rw[e1]at hv;cases hv with
       |fsl0 _ _=>simp at hlt;omega
       |fsl _ _ b p c _ hn hk hF hc hr=>
        refine⟨_,_,hgo _ (by rw[e1];exact hrun _ _ _ h0 (by omega)),?_,h⟩;rw[Addr.add_mid];exact Aew hk hF hc hr hlt'
      |_=>rw[e1]at hv;cases hv
     ·rename_i b p len cap
      have e1:=hv.eq;refine⟨_,_,hgo _ (by rw[e1];exact hrun _ _ _ h.2.1 h.2.2.1),?_,h.2.2.2⟩;have ep:p+j.toNat*ie.size=(p/ie.size+j.toNat)*ie.size+0:=by
       have:=Nat.div_add_mod p ie.size;rw[h.1,Nat.mul_comm]at this;rw[Nat.add_mul];omega
      rw[Addr.add_mid,ep];exact .rp b ie.size (p/ie.size+j.toNat) 0
     ·exact h.elim
    |_=>simp[htd]at h
   |_=>simp at h
  |_=>rw[hqi]at h;simp at h
def Sg(i:Option TK)(x ix:AV)(k:AV→Prop):Prop:=
 match i with
 |some i=>match ix with
  | .v (.int _ j)=>match i.td with
   | .arr m esz ag=>match x with
    | .agg cs=>0≤j∧j<m∧Kw ag (j.toNat*esz) esz cs k
    |_=>False
   | .str=>match x with
    | .v (.string s)=>0≤j∧j<s.size∧k (.v (.int .u8 (s.data.toList.getD j.toNat 0).toNat))
    |_=>False
   |_=>False
  |_=>False
 |none=>False
theorem Ly{d:TypeDesc}(h:Di P d= .str):d= .string:=by
 cases d with
 |array n e=>simp only[Di]at h;(repeat' split at h)<;>cases h
 |struct e=>simp only[Di]at h;(repeat' split at h)<;>cases h
 |slice e=>simp only[Di]at h;(repeat' split at h)<;>cases h
 |string=>rfl
 |_=>simp[Di]at h
theorem Ah4{t:TypeId}{x ix:Operand}(ho:o.op= .index t x ix)(hx:Bb n x=true)(hix:Bb n ix=true)(hf:Bc F w n fr a)(h:Sg (tk P t) (fr.ev x) (fr.ev ix) k):D8 P o a F w k:=by
 cases ht:tk P t with
 |none=>simp[ht,Sg]at h
 |some i=>
  obtain⟨inf,d,z,h1,h2,h3,h4,h5,h6,h7,h8⟩:=Br ht;simp only[ht,Sg]at h;have hv:=hf.ev x hx;have hiv:=hf.ev ix hix;cases hqi:fr.ev ix with
  |v q=>
   rw[hqi]at hiv h;have eiv:=hiv.eq;cases q with
   |int kk j=>
    simp only at h;unfold D8;cases htd:i.td with
    |arr m esz ag=>
     obtain⟨e,ie,g,rfl,k1,rfl,k3,k4⟩:=Yk (P:=P) (by rw[←h7,htd]);simp only[htd]at h;cases hq:fr.ev x with
     |agg cs=>
      rw[hq]at h hv;simp only at h;cases e1:a.eval x with
      |agg vs=>
       rw[e1]at hv;cases hv with
       |agg _ _ hl hr=>
        obtain⟨y,v,r1,r2,r3⟩:=Rm k1 k3 (j.toNat*ie.size) hl hr (by rw[k4];exact h.2.2);refine⟨y,v,?_,r2,r3⟩;have hjm:j<m:=h.2.1;simp[execOp,ho,e1,eiv,Instr.index,asIntOf,run_underlying h2,h.1,hjm,A6 k1,r1]
      |_=>rw[e1]at hv;cases hv
     |_=>rw[hq]at h;simp at h
    |str=>
     have hd:=Ly (P:=P) (d:=d) (by rw[←h7,htd]);subst hd;simp only[htd]at h;revert h hv;generalize fr.ev x=q;intro hv h;split at h
     ·rename_i s
      have e1:=hv.eq;have hlt:j.toNat<s.size:=by omega
      have hlt':j.toNat<s.data.size:=hlt;refine⟨_,_,?_,.v _,h.2.2⟩;have hs:s[j.toNat]? =some (s.data.toList.getD j.toNat 0):=by
       rw[getElem?_pos s j.toNat hlt];rw[List.getD_eq_getElem?_getD,Array.getElem?_toList,Array.getElem?_eq_getElem hlt'];rfl
      simp[execOp,ho,e1,eiv,Instr.index,asIntOf,run_underlying h2,h.1,hs]
     ·exact h.elim
    |_=>simp[htd]at h
   |_=>simp at h
  |_=>rw[hqi]at h;simp at h
def Hp(x:AV)(j:Nat)(k:AV→Prop):Prop:=
 match x with
 | .tup vs=>j<vs.length∧k (vs.getD j (.v undef))
 |_=>False
theorem Ah2{x:Operand}{j:Nat}(ho:o.op= .extract x j)(hx:Bb n x=true)(hf:Bc F w n fr a)(h:Hp (fr.ev x) j k):D8 P o a F w k:=by
 have hv:=hf.ev x hx;revert h hv;generalize fr.ev x=q;intro h hv;unfold Hp at h;split at h
 ·cases e1:a.eval x with
  |tuple vs=>
   rw[e1]at hv;cases hv with
   |tup _ _ hl hr=>
    refine⟨vs.getD j undef,_,?_,hr j h.1,h.2⟩;have:j<vs.size:=by omega
    simp[execOp,ho,e1,Instr.extract,this]
  |_=>rw[e1]at hv;cases hv
 ·exact h.elim
def Jm(c x y:AV)(k:AV→Prop):Prop:=
 match c with
 | .v (.bool b)=>if b=true then k x else k y
 |_=>False
theorem Adt{c x y:Operand}(ho:o.op= .pick c x y)(hc:Bb n c=true)(hx:Bb n x=true)(hy:Bb n y=true)(hf:Bc F w n fr a)(h:Jm (fr.ev c) (fr.ev x) (fr.ev y) k):D8 P o a F w k:=by
 have hcv:=hf.ev c hc;revert h hcv;generalize fr.ev c=q;intro h hcv;unfold Jm at h;split at h
 ·rename_i b
  have e1:=hcv.eq;cases b with
  |true=>exact⟨a.eval x,_,by simp[execOp,ho,e1,asBool],hf.ev x hx,by simpa using h⟩
  |false=>exact⟨a.eval y,_,by simp[execOp,ho,e1,asBool],hf.ev y hy,by simpa using h⟩
 ·exact h.elim
end
def view(q:Nat)(σ:St):AV→Option (List (List AV))
 | .sl q' es=>if q'=q then some es else none
 | .fsl q' es=>if q'=q then some es else none
 | .v (.slice none 0 0)=>some []
 | .v (.slice (some ⟨b,0,none⟩) n cap)=>match σ b with
  |some (.rows q' es true cap')=>if q'=q∧n=es.length∧cap=cap' then some es else none
  |_=>none
 |_=>none
section
variable{P:Program}{o:Oper}{n:Nat}{fr:Fr}{a:Act}{F:Bl}{w:World}{σ:St}{k:AV→Prop}
theorem Apq(hs:Rel F w σ){b q:Nat}{es:List (List AV)}{cap:Nat}(hb:σ b=some (.rows q es true cap)):RV F w (.sl q es) (.slice (some ⟨b,0,none⟩) es.length cap):=by
 obtain⟨c,e,m,g1,g2,g3,g4,g5,g6,g7⟩:=hs.obj b _ hb;have hle:es.length*q≤cap*q:=Nat.mul_le_mul_right _ g3;refine .sl q es b 0 (fun j=>c.getD j undef) _ cap rfl g4 g3 (by rw[g6,if_pos rfl];omega) (fun j hj=>?_) g7;have hlt:j<c.size:=by omega
 simp[World.cell?,g1,hlt]
theorem Ap9(hs:Rel F w σ){q:Nat}{x:AV}{X:Value}{es:List (List AV)}(h:view q σ x=some es)(hv:RV F w x X):RV F w (.sl q es) X:=by
 unfold view at h;split at h
 ·split at h
  ·rename_i hq;subst hq;injection h with h;subst h;exact hv
  ·cases h
 ·split at h
  ·rename_i hq;subst hq;injection h with h;subst h
   cases hv with
   |fsl0 _ a=>exact .sl0 _ _ _
   |fsl _ _ b p c n hn hk hF hc hr=>exact .sl _ _ b p c n n hn hk (Nat.le_refl _) hF hc hr
  ·cases h
 ·injection h with h;subst h
  rw[hv.eq];exact .sl0 _ _ _
 ·rename_i b nn cap
  split at h
  ·rename_i q' es' cap' hb
   split at h
   ·rename_i hc
    obtain⟨rfl,rfl,rfl⟩:=hc;injection h with h;subst h;rw[hv.eq];exact Apq hs hb
   ·cases h
  ·cases h
 ·cases h
def P6(q:Nat)(σ:St):AV→Option (List (List AV))
 | .sl q' es=>if q'=q then some es else none
 | .fsl q' es=>if q'=q then some es else none
 | .v (.slice none 0 0)=>some []
 | .v (.slice (some ⟨b,0,none⟩) n cap)=>match σ b with
  |some (.rows q' es _ cap')=>if q'=q∧n≤es.length∧n≤cap then some (es.take n)else none
  |_=>none
 |_=>none
theorem Amd(hs:Rel F w σ){q:Nat}{x:AV}{X:Value}{es:List (List AV)}(h:P6 q σ x=some es)(hv:RV F w x X):∃F',RV F' w (.sl q es) X:=by
 unfold P6 at h;split at h
 ·split at h
  ·rename_i hq;subst hq;injection h with h;subst h;exact⟨F,hv⟩
  ·cases h
 ·split at h
  ·rename_i hq;subst hq;injection h with h;subst h
   cases hv with
   |fsl0 _ a=>exact⟨F,.sl0 _ _ _⟩
   |fsl _ _ b p c n hn hk hF hc hr=>exact⟨F,.sl _ _ b p c n n hn hk (Nat.le_refl _) hF hc hr⟩
  ·cases h
 ·injection h with h;subst h
  rw[hv.eq];exact⟨F,.sl0 _ _ _⟩
 ·rename_i b nn cap
  split at h
  ·rename_i q' es' frz cap' hb
   split at h
   ·rename_i hc
    obtain⟨rfl,hn,hcap⟩:=hc;injection h with h;subst h;rw[hv.eq];obtain⟨c,e,m,g1,g2,g3,g4,g5,g6,g7⟩:=hs.obj b _ hb;have hlen:(es'.take nn).length=nn:=by rw[List.length_take];omega
    have hle:es'.length*q'≤cap'*q':=Nat.mul_le_mul_right _ g3;have hle2:nn*q'≤es'.length*q':=Nat.mul_le_mul_right _ hn;obtain⟨F',hF'⟩:∃F':Bl,F'=fun y=>if y=b then max (F b) (nn*q')else F y:=⟨_,rfl⟩
    have hFe:∀y,F' y=if y=b then max (F b) (nn*q')else F y:=fun y=>by rw[hF']
    have hFb:nn*q'≤F' b:=by rw[hFe,if_pos rfl];exact Nat.le_max_right _ _
    have hk:B9 F w F' w:=⟨fun y=>by
     rw[hFe];by_cases hy:y=b
     ·rw[if_pos hy,hy];exact Nat.le_max_left _ _
     ·rw[if_neg hy];exact Nat.le_refl _,fun _ _ _=>rfl⟩
    refine⟨F',.sl q' _ b 0 (fun j=>c.getD j undef) nn cap hlen.symm (fun x hx=>g4 x (List.mem_of_mem_take hx)) hcap (by rw[hlen];omega) (fun j hj=>?_) (fun i j hi hj=>?_)⟩
    ·rw[hlen]at hj
     have hlt:j<c.size:=by omega
     simp[World.cell?,g1,hlt]
    ·rw[hlen]at hi
     have e1:(es'.take nn).getD i []=es'.getD i []:=by simp[List.getD_eq_getElem?_getD,List.getElem?_take,hi]
     rw[e1];exact(g7 i j (by omega) hj).mono hk
   ·cases h
  ·cases h
 ·cases h
theorem Yb{q:Nat}{es:List (List AV)}{X:Value}(hv:RV F w (.sl q es) X):∃ad cap,X= .slice ad es.length cap∧es.length≤cap:=by
 cases hv with
 |sl0 _ ad cap=>exact⟨ad,cap,rfl,by simp⟩
 |sl _ _ b p c nn cap hn hk hcap hF hc hr=>subst hn;exact⟨_,cap,rfl,hcap⟩
theorem Af5{q:Nat}{es:List (List AV)}{ad:Option Addr}{cap:Nat}(hv:RV F w (.sl q es) (.slice ad es.length cap))(l h m:Nat)(hl:l≤h)(hh:h≤es.length)(hm:h≤m)(hmc:m≤cap):
  RV F w (.sl q ((es.take h).drop l)) (sliced ad l h m q)∧(m=h→RV F w (.fsl q ((es.take h).drop l)) (sliced ad l h m q)):=by
 have hlen:((es.take h).drop l).length=h-l:=by simp;omega
 unfold sliced;by_cases hlh:l=h
 ·subst hlh
  have e:(es.take l).drop l=[]:=List.eq_nil_of_length_eq_zero (by rw[hlen];omega);rw[e,Nat.sub_self];refine⟨.sl0 _ _ _,fun hmh=>?_⟩;subst hmh;rw[Nat.sub_self];exact .fsl0 _ _
 ·have hml:m≠l:=by omega
  rw[if_neg hml];generalize hN:es.length=N at hv hh;cases hv with
  |sl0 _ _ _=>simp at hN;omega
  |sl _ _ b p c _ _ hn hk hcap hF hc hr=>
   simp only[Option.map_some,Addr.add_mid];have hk':∀e∈(es.take h).drop l,e.length=q∧e.all AV.one=true:=fun e he=>hk e (List.mem_of_mem_take (List.mem_of_mem_drop he));have hle:l*q+(h-l)*q≤es.length*q:=by rw[←Nat.add_mul];exact Nat.mul_le_mul_right _ (by omega)
   have hc':∀j,j<((es.take h).drop l).length*q→w.cell? ⟨b,p+l*q+j,none⟩=some (c (l*q+j)):=fun j hj=>by
    rw[hlen]at hj;rw[Nat.add_assoc];exact hc _ (by omega)
   have hr':∀i j,i<((es.take h).drop l).length→j<q→RV F w ((((es.take h).drop l).getD i []).getD j (.v undef)) (c (l*q+(i*q+j))):=fun i j hi hj=>by
    rw[hlen]at hi;have e1:((es.take h).drop l).getD i []=es.getD (l+i) []:=by
     simp only[List.getD_eq_getElem?_getD,List.getElem?_drop,List.getElem?_take];rw[if_pos (by omega)]
    rw[e1];have:=hr (l+i) j (by omega) hj;rwa[Nat.add_mul,Nat.add_assoc]at this
   refine⟨.sl q _ b (p+l*q) (fun j=>c (l*q+j)) _ _ hlen.symm hk' (by omega) (by rw[hlen];omega) hc' hr',fun hmh=>?_⟩;subst hmh;exact .fsl q _ b (p+l*q) (fun j=>c (l*q+j)) _ hlen.symm hk' (by rw[hlen];omega) hc' hr'
def Jz(d:Int):Option AV→Option Int
 |none=>some d
 |some (.v (.int _ j))=>some j
 |_=>none
theorem Ny(isSlice:Bool)(len cap:Nat)(lo hi mx:Option Operand)(l h m:Int)(hlo:∀x,lo=some x→Bb n x=true)(hhi:∀x,hi=some x→Bb n x=true)(hmx:∀x,mx=some x→Bb n x=true)
  (hf:Bc F w n fr a) (h1:Jz 0 (lo.map fr.ev)=some l) (h2:Jz len (hi.map fr.ev)=some h) (h3:mx=none∧m=cap∨hi≠none∧mx≠none∧Jz cap (mx.map fr.ev)=some m)
  (b1:0≤l) (b2:l≤h) (b3:h≤m) (b4:m≤cap):(Instr.sliceBounds isSlice len cap (lo.map a.eval) (hi.map a.eval) (mx.map a.eval)).run P w= .ok (l.toNat,h.toNat,m.toNat) w:=by
 have one:∀(y:Option Operand) (d j:Int),(∀x,y=some x→Bb n x=true)→Jz d (y.map fr.ev)=some j→(y=none∧j=d)∨∃x kk,y=some x∧a.eval x= .int kk j:=by
  intro y d j hin hy;cases y with
  |none=>simp[Jz]at hy;exact .inl ⟨rfl,hy.symm⟩
  |some x=>
   right;simp only[Option.map_some,Jz]at hy;split at hy
   ·rename_i hq;cases hq
   ·rename_i hq
    injection hq with hq;injection hy with hy;subst hy;have:=hf.ev x (hin x rfl);rw[hq]at this;exact⟨x,_,rfl,this.eq⟩
   ·cases hy
 have hm0:((m.toNat:Nat):Int)=m:=Int.toNat_of_nonneg (by omega);have hh0:((h.toNat:Nat):Int)=h:=Int.toNat_of_nonneg (by omega);rcases h3 with⟨rfl,rfl⟩|⟨hhn,hmn,h3⟩
 ·rcases one lo 0 l hlo h1 with⟨rfl,rfl⟩|⟨x,kk,rfl,ex⟩<;>rcases one hi len h hhi h2 with⟨rfl,rfl⟩|⟨y,ky,rfl,ey⟩
  ·simp[Instr.sliceBounds]
  ·have hb:0≤h:=by omega
   simp[Instr.sliceBounds,ey,run_sliceBound,hb,b3]
  ·simp[Instr.sliceBounds,ex,run_sliceBound,b1,b2]
  ·have hb:0≤h:=by omega
   simp[Instr.sliceBounds,ex,ey,run_sliceBound,hb,b1,b3,hh0,b2]
 ·rcases one mx cap m hmx h3 with⟨rfl,_⟩|⟨z,kz,rfl,ez⟩
  ·exact absurd rfl hmn
  ·rcases one hi len h hhi h2 with⟨rfl,_⟩|⟨y,ky,rfl,ey⟩
   ·exact absurd rfl hhn
   ·have hb:0≤h:=by omega
    have hbm:0≤m:=by omega
    rcases one lo 0 l hlo h1 with⟨rfl,rfl⟩|⟨x,kk,rfl,ex⟩
    ·simp[Instr.sliceBounds,ey,ez,run_sliceBound,hb,hbm,b3,b4,hm0]
    ·simp[Instr.sliceBounds,ex,ey,ez,run_sliceBound,hb,hbm,b1,b2,b3,b4,hm0,hh0]
def Gn(m l p q:Nat):Nat:=if m=l then p else p+l*q
def aSli(i:Option TK)(σ:St)(x:AV)(lo hi mx:Option AV)(k:AV→Prop):Prop:=
 match i with
 |none=>False
 |some i=>match i.td with
  | .str=>match x with
   | .v (.string s)=>mx=none∧∃l h,Jz 0 lo=some l∧Jz s.size hi=some h∧0≤l∧l≤h∧h≤s.size∧k (.v (.string (s.extract l.toNat h.toNat)))
   |_=>False
  | .sl q _ _ _=>(∃b p n c,x= .v (.slice (some ⟨b,p,none⟩) n c)∧∃l h m,Jz 0 lo=some l∧Jz n hi=some h∧((mx=none∧m=(c:Int))∨(hi≠none∧mx≠none∧Jz c mx=some m))∧0≤l∧l≤h∧h≤m∧m≤c∧
    k (.v (.slice (some ⟨b,Gn m.toNat l.toNat p q,none⟩) (h.toNat-l.toNat) (m.toNat-l.toNat))))∨∃es,view q σ x=some es∧∃l h,Jz 0 lo=some l∧Jz es.length hi=some h∧0≤l∧l≤h∧h≤es.length∧
    ((mx=none∧k (.sl q ((es.take h.toNat).drop l.toNat)))∨(mx≠none∧hi≠none∧Jz es.length mx=some h∧k (.fsl q ((es.take h.toNat).drop l.toNat))))
  |_=>False
theorem Ah7{t:TypeId}{x:Operand}{lo hi mx:Option Operand}(ho:o.op= .slice t x lo hi mx)(hx:Bb n x=true)(hlo:∀x,lo=some x→Bb n x=true)(hhi:∀x,hi=some x→Bb n x=true)(hmx:∀x,mx=some x→Bb n x=true)
  (hf:Bc F w n fr a) (hs:Rel F w σ) (h:aSli (tk P t) σ (fr.ev x) (lo.map fr.ev) (hi.map fr.ev) (mx.map fr.ev) k):D8 P o a F w k:=by
 cases ht:tk P t with
 |none=>simp[ht,aSli]at h
 |some i=>
  obtain⟨inf,d,z,h1,h2,h3,h4,h5,h6,h7,h8⟩:=Br ht;simp only[ht,aSli]at h;have hv:=hf.ev x hx;have hgo:∀y,(Instr.sliceAt t (a.eval x) (lo.map a.eval) (hi.map a.eval) (mx.map a.eval)).run P w= .ok y w→(execOp a.eval o).run P w= .ok (.value y) w:=fun y hy=>by
   simp[execOp,ho,hy]
  unfold D8;cases htd:i.td with
  |str=>
   have hd:=Ly (P:=P) (d:=d) (by rw[←h7,htd]);subst hd;simp only[htd]at h;revert h hv;generalize fr.ev x=q;intro hv h;split at h
   ·rename_i s
    obtain⟨hmxn,l,hh,e1,e2,b1,b2,b3,hk⟩:=h;have hmxn':mx=none:=by cases mx<;>simp_all
    subst hmxn';have ex:=hv.eq;have hb:=Ny (P:=P) (n:=n) (w:=w) false s.size s.size lo hi none l hh s.size hlo hhi hmx hf e1 e2 (.inl ⟨rfl,rfl⟩) b1 b2 b3 (Int.le_refl _);refine⟨_,_,hgo _ ?_,.v _,hk⟩;simp only[Option.map_none]at hb;simp[Instr.sliceAt,run_underlying h2,ex,Instr.slice,hb]
   ·exact h.elim
  |sl q eby ez byt=>
   obtain⟨e,ie,ze,rfl,k1,rfl,k3,k4,k5,k6,k7⟩:=J7 (P:=P) (by rw[←h7,htd]);simp only[htd]at h;rcases h with⟨b,p,nn,c,hxq,l,hh,m,e1,e2,e3,b1,b2,b3,b4,hk⟩|⟨es,hview,l,hh,e1,e2,b1,b2,b3,hk⟩
   ·rw[hxq]at hv
    have eX:=hv.eq
    have hb:=Ny (P:=P) (n:=n) (w:=w) true nn c lo hi mx l hh m hlo hhi hmx hf e1 e2 (by
     rcases e3 with⟨e3,rfl⟩|⟨e3,e4,e5⟩
     ·exact .inl ⟨by cases mx<;>simp_all,rfl⟩
     ·exact .inr ⟨by cases hi<;>simp_all,by cases mx<;>simp_all,e5⟩) b1 b2 b3 b4
    refine⟨_,_,hgo (sliced (some ⟨b,p,none⟩) l.toNat hh.toNat m.toNat ie.size) ?_,?_,hk⟩
    ·simp[Instr.sliceAt,run_underlying h2,eX,Instr.slice,hb,A6 k1,sliced]
    ·unfold sliced Gn
     split
     ·exact .v _
     ·simp only[Option.map_some,Addr.add_mid]
      exact .v _
   have hsl:=Ap9 hs hview hv;obtain⟨ad,cap,eX,hcap⟩:=Yb hsl;rw[eX]at hsl
   have hrun:∀m:Int,(mx=none∧m=cap∨hi≠none∧mx≠none∧Jz cap (mx.map fr.ev)=some m)→hh≤m→m≤cap→
     (Instr.sliceAt t (a.eval x) (lo.map a.eval) (hi.map a.eval) (mx.map a.eval)).run P w= .ok (sliced ad l.toNat hh.toNat m.toNat ie.size) w:=fun m hm1 hm2 hm3=>by
    have hb:=Ny (P:=P) (n:=n) (w:=w) true es.length cap lo hi mx l hh m hlo hhi hmx hf e1 e2 hm1 b1 b2 hm2 hm3;simp[Instr.sliceAt,run_underlying h2,eX,Instr.slice,hb,A6 k1,sliced]
   rcases hk with⟨hmn,hk⟩|⟨hmn,hin,e3,hk⟩
   ·have hmn':mx=none:=by cases mx<;>simp_all
    subst hmn';have:=hrun cap (.inl ⟨rfl,rfl⟩) (by omega) (Int.le_refl _);rw[Int.toNat_natCast]at this;exact⟨_,_,hgo _ this,(Af5 hsl l.toNat hh.toNat cap (by omega) (by omega) (by omega) (Nat.le_refl _)).1,hk⟩
   ·have e3':Jz cap (mx.map fr.ev)=some hh:=by
     cases mx with
     |none=>simp at hmn
     |some y=>
      simp only[Option.map_some,Jz]at e3⊢;split at e3
      ·rename_i hq;cases hq
      ·exact e3
      ·cases e3
    have:=hrun hh (.inr ⟨by cases hi<;>simp_all,by cases mx<;>simp_all,e3'⟩) (Int.le_refl _) (by omega);exact⟨_,_,hgo _ this,(Af5 hsl l.toNat hh.toNat hh.toNat (by omega) (by omega) (Nat.le_refl _) (by omega)).2 rfl,hk⟩
  |_=>simp[htd]at h
def K6(i:Option TK)(x:AV)(k:AV→Prop):Prop:=
 match i with
 |some i=>match i.td with
  | .str=>match x with
   | .v (.string s)=>k (.v (.int .i64 s.size))
   |_=>False
  | .sl _ _ _ _=>match x with
   | .sl _ es=>k (.v (.int .i64 es.length))
   | .fsl _ es=>k (.v (.int .i64 es.length))
   | .v (.slice _ n _)=>k (.v (.int .i64 n))
   |_=>False
  | .arr m _ _=>k (.v (.int .i64 m))
  |_=>False
 |none=>False
theorem Ah5{t:TypeId}{x:Operand}(ho:o.op= .call {callee:=.builtin .len,args:=#[x],argTypes:=#[t]})(hx:Bb n x=true)(hf:Bc F w n fr a)(h:K6 (tk P t) (fr.ev x) k):D8 P o a F w k:=by
 cases ht:tk P t with
 |none=>simp[ht,K6]at h
 |some i=>
  obtain⟨inf,d,z,h1,h2,h3,h4,h5,h6,h7,h8⟩:=Br ht;simp only[ht,K6]at h;have hv:=hf.ev x hx;have hgo:∀y,(Builtin.len_ #[t] o.type #[a.eval x]).run P w= .ok y w→(execOp a.eval o).run P w= .ok (.value y) w:=fun y hy=>by
   simp[execOp,ho,resolve,invoke,builtin,hy]
  unfold D8;cases htd:i.td with
  |str=>
   have hd:=Ly (P:=P) (d:=d) (by rw[←h7,htd]);subst hd;simp only[htd]at h;revert h hv;generalize fr.ev x=q;intro hv h;split at h
   ·have ex:=hv.eq
    exact⟨_,_,hgo _ (by simp[Builtin.len_,run_underlying h2,ex,goInt]),.v _,h⟩
   ·exact h.elim
  |sl q eby ez byt=>
   obtain⟨e,ie,ze,rfl,k1,rfl,k3,k4,k5,k6,k7⟩:=J7 (P:=P) (by rw[←h7,htd]);simp only[htd]at h;revert h hv;generalize fr.ev x=q;intro hv h;split at h
   ·obtain⟨ad,cap,eX,hcap⟩:=Yb hv
    exact⟨_,_,hgo _ (by simp[Builtin.len_,run_underlying h2,eX,goInt]),.v _,h⟩
   ·rename_i q' es
    have hv':RV F w (.sl q' es) (a.eval x):=by
     generalize a.eval x=X at hv;cases hv with
     |fsl0 _ a=>exact .sl0 _ _ _
     |fsl _ _ b p c n hn hk hF hc hr=>exact .sl _ _ b p c n n hn hk (Nat.le_refl _) hF hc hr
    obtain⟨ad,cap,eX,hcap⟩:=Yb hv';exact⟨_,_,hgo _ (by simp[Builtin.len_,run_underlying h2,eX,goInt]),.v _,h⟩
   ·have ex:=hv.eq
    exact⟨_,_,hgo _ (by simp[Builtin.len_,run_underlying h2,ex,goInt]),.v _,h⟩
   ·exact h.elim
  |arr m esz ag=>
   obtain⟨e,ie,g,rfl,k1,rfl,k3,k4⟩:=Yk (P:=P) (by rw[←h7,htd]);simp only[htd]at h;exact⟨_,_,hgo _ (by simp[Builtin.len_,run_underlying h2,goInt]),.v _,h⟩
  |_=>simp[htd]at h
end
section
variable{P:Program}{o:Oper}{n:Nat}{fr:Fr}{a:Act}{F:Bl}{w:World}{σ:St}
theorem Tk(vs:Array Value)(off:Nat):∀(l:List Value) (s:Nat) (cs:Array Value),
  let r:=(l.zipIdx s).foldl (fun cs (c,j)=>cs.setIfInBounds (off+j) c) cs
  r.size=cs.size∧∀x,r.getD x undef=if off+s≤x∧x<off+s+l.length∧x<cs.size then l.getD (x-(off+s)) undef else cs.getD x undef
 | [],s,cs=>⟨rfl,fun x=>by simp only[List.zipIdx_nil,List.foldl_nil,List.length_nil];rw[if_neg (by omega)]⟩
 |v::l,s,cs=>by
  obtain⟨h1,h2⟩:=Tk vs off l (s+1) (cs.setIfInBounds (off+s) v);simp only[List.zipIdx_cons,List.foldl_cons];refine⟨by rw[h1];simp,fun x=>?_⟩;rw[h2 x];simp only[Array.size_setIfInBounds,List.length_cons];by_cases c1:off+(s+1)≤x∧x<off+(s+1)+l.length∧x<cs.size
  ·rw[if_pos c1,if_pos (by omega),show x-(off+s)=(x-(off+(s+1)))+1 by omega]
   simp
  ·rw[if_neg c1]
   by_cases hx:x=off+s
   ·subst hx
    by_cases hlt:off+s<cs.size
    ·rw[if_pos (by omega)]
     simp[Array.getElem?_setIfInBounds,hlt]
    ·rw[if_neg (by omega)]
     simp[Array.getElem?_setIfInBounds,hlt,Array.getElem?_eq_none (Nat.le_of_not_lt hlt)]
   ·rw[if_neg (by omega)]
    simp only[Array.getD_eq_getD_getElem?,Array.getElem?_setIfInBounds];rw[if_neg (by omega)]
def Hg(fs:Nat→Option (Nat×Nat))(k:AV→Prop):List AV→List (Nat×AV)→Prop
 |cs,[]=>k (.agg cs)
 |cs,(j,x)::r=>match fs j with
  |some (off,sz)=>x.cells.length=sz∧off+sz≤cs.length∧Hg fs k (Az cs off x.cells) r
  |none=>False
def evs(ev:Operand→AV)(ps:List (Nat×Operand)):List (Nat×AV):=ps.map fun p=>(p.1,ev p.2)
theorem Uc{k:AV→Prop}(hf:Bc F w n fr a)(fs:Nat→Option (Nat×Nat)):∀(ps:List (Nat×Operand)) (cs:List AV) (vs:Array Value),(∀p∈ps,Bb n p.2=true)→vs.size=cs.length→(∀j,j<cs.length→RV F w (cs.getD j (.v undef)) (vs.getD j undef))→
  Hg fs k cs (evs fr.ev ps)→∃vs' cs',Instr.fill fs vs (ps.map fun p=>(p.1,a.eval p.2))=some vs'∧vs'.size=cs'.length∧(∀j,j<cs'.length→RV F w (cs'.getD j (.v undef)) (vs'.getD j undef))∧k (.agg cs')
 | [],cs,vs,_,hl,hr,h=>⟨vs,cs,rfl,hl,hr,h⟩
 |(j,x)::ps,cs,vs,hin,hl,hr,h=>by
  simp only[evs,List.map_cons,Hg]at h;cases hj:fs j with
  |none=>simp[hj]at h
  |some q=>
   obtain⟨off,sz⟩:=q;simp only[hj]at h;obtain⟨h1,h2,h3⟩:=h;have hv:=(hf.ev x (hin (j,x) (by simp))).cells;have hsz:(a.eval x).cells.size=sz:=by have:=hv.1;simp at this;omega
   obtain⟨g1,g2⟩:=Tk vs off (a.eval x).cells.toList 0 vs
   obtain⟨vs',cs',r1,r2,r3,r4⟩:=Uc hf fs ps (Az cs off (fr.ev x).cells) _ (fun p hp=>hin p (by simp[hp])) (by rw[g1,hl,Fb _ _ _ (by omega)]) (fun y hy=>by
    rw[Fb _ _ _ (by omega)]at hy;rw[Lx _ _ _ (by omega),g2 y];simp only[Nat.add_zero];by_cases hin:off≤y∧y<off+(fr.ev x).cells.length
    ·rw[if_pos hin,if_pos (by rw[hv.1];omega)]
     exact hv.2 (y-off) (by omega)
    ·rw[if_neg hin,if_neg (by rw[hv.1];omega)]
     exact hr y hy) h3
   refine⟨vs',cs',?_,r2,r3,r4⟩;simp only[List.map_cons,Instr.fill,hj];rw[if_neg (by simp only[Bool.or_eq_true,decide_eq_true_eq];omega)];rw[←Array.foldl_toList,Array.toList_zipIdx];exact r1
def H8(i:Option TK)(ps:List (Nat×AV))(k:AV→Prop):Prop:=
 match i with
 |some i=>match i.td with
  | .st fs=>Hg (fun j=>(fs[j]?).map fun f=>(f.1,f.2.1)) k (i.zr.map .v) ps
  | .arr _ esz _=>Hg (fun j=>some (j*esz,esz)) k (i.zr.map .v) ps
  |_=>False
 |none=>False
theorem Abb{k:AV→Prop}{t:TypeId}{ps:Array (Nat×Operand)}(ho:o.op= .build t ps)(hps:∀p∈ps.toList,Bb n p.2=true)(hf:Bc F w n fr a)(h:H8 (tk P t) (evs fr.ev ps.toList) k):D8 P o a F w k:=by
 cases ht:tk P t with
 |none=>simp[ht,H8]at h
 |some i=>
  obtain⟨inf,d,z,h1,h2,h3,h4,h5,h6,h7,h8⟩:=Br ht;simp only[ht,H8]at h;have hz:∀j,j<(i.zr.map AV.v).length→RV F w ((i.zr.map AV.v).getD j (.v undef)) (z.cells.getD j undef):=fun j hj=>by
   simp at hj;rw[Kn _ _ hj,h6];simp;exact .v _
  have hzl:z.cells.size=(i.zr.map AV.v).length:=by rw[h6];simp
  unfold D8;have hgo:∀y,(Instr.build t (ps.map fun(i,x)=>(i,a.eval x))).run P w= .ok y w→(execOp a.eval o).run P w= .ok (.value y) w:=fun y hy=>by
   simp[execOp,ho,hy]
  have hmap:(ps.map fun(i,x)=>(i,a.eval x)).toList=ps.toList.map fun p=>(p.1,a.eval p.2):=by simp
  cases htd:i.td with
  |st fs=>
   simp only[htd]at h;obtain⟨gs,rfl,hgs,hgn⟩:=Al3 (P:=P) (by rw[←h7,htd]);obtain⟨vs',cs',r1,r2,r3,r4⟩:=Uc hf _ ps.toList (i.zr.map .v) z.cells hps hzl hz h;have hplaces:∀(l:List Field),(∀f∈l,∃i,P.info? f.type=some i)→(l.mapM fun f=>(do pure (f.offset,←sizeOf f.type):Sem (Nat×Nat))).run P w= .ok (l.map fun f=>(f.offset,P.cellsOf f.type)) w:=by
    intro l
    induction l with
    |nil=>intro _;simp
    |cons f l ih=>
     intro hl;obtain⟨ii,hii⟩:=hl f (by simp);have:=ih (fun g hg=>hl g (by simp[hg]));simp only[List.mapM_cons,Sem.run_bind,A6 hii,Result.andThen_ok,Sem.run_pure,this,List.map_cons];simp[Program.cellsOf,hii]
   have hinfo:∀f∈gs.toList,∃i,P.info? f.type=some i:=fun f hf'=>by
    obtain⟨j,hj,rfl⟩:=List.getElem_of_mem hf';have hj':j<gs.size:=by simpa using hj
    obtain⟨i,e,h,_⟩:=hgs j gs.toList[j] (by simp[hj']);exact⟨i,h⟩
   have hp:=hplaces gs.toList hinfo;have hfs:(fun j:Nat=>(fs[j]?).map fun f:Nat×Nat×Bool=>(f.1,f.2.1))=(((gs.toList.map fun f=>(f.offset,P.cellsOf f.type)).toArray)[·]?):=by
    funext j;cases hj:gs[j]? with
    |none=>
     have:fs[j]? =none:=by
      cases hq:fs[j]? with
      |none=>rfl
      |some q=>have:=hgn j (by simp[hq]);simp[hj]at this
     simp[this,hj]
    |some g=>
     obtain⟨i,e,k1,k2,k3⟩:=hgs j g hj;simp[k3,hj,Program.cellsOf,k1]
   refine⟨.agg vs',_,hgo _ ?_,.agg _ _ r2 r3,r4⟩;rw[hfs]at r1;have hpa:(gs.mapM fun f=>(do pure (f.offset,←sizeOf f.type):Sem (Nat×Nat))).run P w= .ok ((gs.toList.map fun f=>(f.offset,P.cellsOf f.type)).toArray) w:=by
    rw[Array.mapM_eq_mapM_toList,map_eq_pure_bind,Sem.run_bind,hp];rfl
   simp only[Instr.build,Sem.run_bind,Eo h1 h3,Result.andThen_ok,run_underlying h2,hpa,hmap];rw[r1];simp
  |arr m esz ag=>
   obtain⟨e,ie,g,rfl,k1,rfl,k3,k4⟩:=Yk (P:=P) (by rw[←h7,htd]);simp only[htd]at h;obtain⟨vs',cs',r1,r2,r3,r4⟩:=Uc hf _ ps.toList (i.zr.map .v) z.cells hps hzl hz h;refine⟨.agg vs',_,hgo _ ?_,.agg _ _ r2 r3,r4⟩;simp only[Instr.build,Sem.run_bind,Eo h1 h3,Result.andThen_ok,run_underlying h2,A6 k1,hmap];rw[r1];simp
  |_=>simp[htd]at h
def Hq(esz:Nat)(k:List (List AV)→Prop):List (List AV)→List (Nat×AV)→Prop
 |es,[]=>k es
 |es,(j,x)::r=>j<es.length∧x.cells.length=esz∧x.cells.all AV.one=true∧Hq esz k (es.set j x.cells) r
theorem V7{k:List (List AV)→Prop}(hf:Bc F w n fr a)(q:Nat):∀(ps:List (Nat×Operand)) (es:List (List AV)) (vs:Array Value),(∀p∈ps,Bb n p.2=true)→(∀e∈es,e.length=q∧e.all AV.one=true)→vs.size=es.length*q→
  (∀i j,i<es.length→j<q→RV F w ((es.getD i []).getD j (.v undef)) (vs.getD (i*q+j) undef))→Hq q k es (evs fr.ev ps)→
  ∃vs' es',Instr.fill (fun i=>some (i*q,q)) vs (ps.map fun p=>(p.1,a.eval p.2))=some vs'∧es'.length=es.length∧(∀e∈es',e.length=q∧e.all AV.one=true)∧vs'.size=es'.length*q∧
   (∀i j,i<es'.length→j<q→RV F w ((es'.getD i []).getD j (.v undef)) (vs'.getD (i*q+j) undef))∧k es'
 | [],es,vs,_,he,hl,hr,h=>⟨vs,es,rfl,rfl,he,hl,hr,h⟩
 |(j,x)::ps,es,vs,hin,he,hl,hr,h=>by
  simp only[evs,List.map_cons,Hq]at h;obtain⟨h1,h2,h2',h3⟩:=h;have hv:=(hf.ev x (hin (j,x) (by simp))).cells;have hsz:(a.eval x).cells.size=q:=by have:=hv.1;simp at this;omega
  have hjq:j*q+q≤es.length*q:=by rw[←Nat.succ_mul];exact Nat.mul_le_mul_right _ h1
  obtain⟨g1,g2⟩:=Tk vs (j*q) (a.eval x).cells.toList 0 vs
  obtain⟨vs',es',r1,r2,r3,r4,r5,r6⟩:=V7 hf q ps (es.set j (fr.ev x).cells) _ (fun p hp=>hin p (by simp[hp])) (fun e hm=>by
    rcases List.mem_or_eq_of_mem_set hm with h'|rfl
    ·exact he e h'
    ·exact⟨h2,h2'⟩) (by rw[g1,hl];simp) (fun i y hi hy=>by
    simp only[List.length_set]at hi;rw[g2 (i*q+y)];simp only[Nat.add_zero];by_cases hij:i=j
    ·subst hij
     have e1:(es.set i (fr.ev x).cells).getD i []=(fr.ev x).cells:=by simp[List.getD_eq_getElem?_getD,hi]
     rw[e1,if_pos (by rw[hv.1];omega),show i*q+y-i*q=y by omega];exact hv.2 y (by omega)
    ·have e1:(es.set j (fr.ev x).cells).getD i []=es.getD i []:=by simp[List.getD_eq_getElem?_getD,List.getElem?_set,Ne.symm hij]
     rw[e1,if_neg ?_]
     ·exact hr i y hi hy
     ·rw[hv.1]
      intro hcon;rcases Nat.lt_or_gt_of_ne hij with hlt|hgt
      ·have:(i+1)*q≤j*q:=Nat.mul_le_mul_right _ (by omega)
       rw[Nat.succ_mul]at this;omega
      ·have:(j+1)*q≤i*q:=Nat.mul_le_mul_right _ (by omega)
       rw[Nat.succ_mul]at this;omega) h3
  refine⟨vs',es',?_,by rw[r2];simp,r3,r4,r5,r6⟩;simp only[List.map_cons,Instr.fill];rw[if_neg (by simp only[Bool.or_eq_true,decide_eq_true_eq];omega)];rw[←Array.foldl_toList,Array.toList_zipIdx];exact r1
def Hc(i:Option TK)(len:Nat)(ps:List (Nat×AV))(k:AV→Prop):Prop:=
 match i with
 |some i=>match i.td with
  | .sl esz _ ez _=>0<esz∧len*esz≤16777216∧ez.all Value.oneCell'=true∧Hq esz (fun es=>k (.fsl esz es)) (List.replicate len (ez.map .v)) ps
  |_=>False
 |none=>False
theorem Yc{k:AV→Prop}{t:TypeId}{len:Nat}{ps:Array (Nat×Operand)}(ho:o.op= .buildSlice t len ps)(hps:∀p∈ps.toList,Bb n p.2=true)(hf:Bc F w n fr a)(hs:Rel F w σ)(h:Hc (tk P t) len (evs fr.ev ps.toList) k):
  Gk P o a F w σ fun v σ'=>σ'=σ∧k v:=by
 cases ht:tk P t with
 |none=>simp[ht,Hc]at h
 |some i=>
  obtain⟨inf,d,z,h1,h2,h3,h4,h5,h6,h7,h8⟩:=Br ht;simp only[ht,Hc]at h;cases htd:i.td with
  |sl q eby ez byt=>
   obtain⟨e,ie,ze,rfl,k1,rfl,k3,k4,rfl,k6,k7⟩:=J7 (P:=P) (by rw[←h7,htd]);simp only[htd]at h;obtain⟨hq,hsmall,hez,h⟩:=h;have hzl:(ze.cells.toList.map AV.v).length=ie.size:=by simp[k6]
   have hlit:∀x,x<len*ie.size→((Array.range (len*ie.size)).map (ze.cells[· % ze.cells.size]!)).getD x undef=ze.cells.getD (x % ie.size) undef:=fun x hx=>by
    have hm:x % ie.size<ze.cells.size:=by rw[k6];exact Nat.mod_lt _ hq
    simp[hx,k6,Nat.mod_lt x hq]
   obtain⟨vs',es',r1,r2,r3,r4,r5,r6⟩:=V7 hf ie.size ps.toList (List.replicate len (ze.cells.toList.map .v)) ((Array.range (len*ie.size)).map (ze.cells[· % ze.cells.size]!)) hps (fun e he=>by
     obtain⟨_,rfl⟩:=List.mem_replicate.1 he;exact⟨hzl,by rw[List.all_map];exact hez⟩) (by simp) (fun i j hi hj=>by
     simp only[List.length_replicate]at hi;have hlt:i*ie.size+j<len*ie.size:=by
      have:(i+1)*ie.size≤len*ie.size:=Nat.mul_le_mul_right _ hi;rw[Nat.succ_mul]at this;omega
     rw[hlit _ hlt,Nat.mul_comm i ie.size,Nat.mul_add_mod,Nat.mod_eq_of_lt hj];have e1:(List.replicate len (ze.cells.toList.map AV.v)).getD i []=ze.cells.toList.map AV.v:=by simp[List.getD_eq_getElem?_getD,hi]
     rw[e1,Kn _ _ (by simp[k6];exact hj)];simp;exact .v _) h
   simp only[List.length_replicate]at r2;have hkp:=Qx hs (.cells vs' e) (len*ie.size);obtain⟨q1,q2⟩:=Apl hs (.cells vs' e) (len*ie.size);refine Ba (x:=.slice (some ⟨w.heap.size,0,none⟩) len len) ?_ q2 q1 ?_ ⟨rfl,r6⟩
   ·have hmap:(ps.map fun(i,x)=>(i,a.eval x)).toList=ps.toList.map fun p=>(p.1,a.eval p.2):=by simp
    have hns:¬len*ie.size>2^24:=by omega
    by_cases h0:len*ie.size=0
    ·have hrep:((Array.range (len*ie.size)).map ((#[]:Array Value)[· %(#[]:Array Value).size]!))=((Array.range (len*ie.size)).map (ze.cells[· % ze.cells.size]!)):=by
      rw[h0];simp
     simp only[execOp,ho,Instr.buildSlice,Sem.run_bind,run_underlying h2,Result.andThen_ok,A6 k1,hns,if_false,h0,if_true,Sem.run_pure,hmap];rw[h0]at hrep r1;simp only[pure_bind,hrep];rw[r1];simp[newRow]
    ·simp only[execOp,ho,Instr.buildSlice,Sem.run_bind,run_underlying h2,Result.andThen_ok,A6 k1,hns,if_false,h0,Eo k1 k4,Sem.run_pure,hmap]
     rw[r1];simp[newRow]
   ·rcases Nat.eq_zero_or_pos len with h0|h0
    ·subst h0
     obtain rfl:es'=[]:=List.eq_nil_of_length_eq_zero r2;exact .fsl0 _ _
    ·refine .fsl ie.size es' w.heap.size 0 (fun j=>vs'.getD j undef) len r2.symm r3 (by unfold Dr;rw[if_pos rfl,r2];omega) (fun j hj=>?_) (fun i j hi hj=>(r5 i j hi hj).mono hkp)
     have hlt:j<vs'.size:=by rw[r4];exact hj
     rw[Nat.zero_add,World.cell?_alloc_new];simp[hlt]
  |_=>simp[htd]at h
end
inductive Du where
 |b
 |i (k:IntKind)
 |s
def Du.ok:Du→Value→Bool
 | .b,.bool _=>true
 | .i k,.int k' _=>decide (k=k')
 | .s,.string _=>true
 |_,_=>false
def Hs:Value→Value→Bool
 | .bool a,.bool b=>a==b
 | .int _ a,.int _ b=>decide (a=b)
 | .string a,.string b=>decide (a=b)
 |_,_=>true
def Fit:List Du→List Value→Bool
 | [],[]=>true
 |l::ls,v::vs=>l.ok v&&Fit ls vs
 |_,_=>false
def eqL:List Value→List Value→Bool
 |x::xs,y::ys=>Hs x y&&eqL xs ys
 |_,_=>true
def O5(P:Program)(g:TypeId→Option (List Du)):List Field→Nat→Option (List Du)
 | [],_=>some []
 |f::fs,off=>if f.name≠ "_" ∧f.offset=off then(match g f.type,P.info? f.type with
   |some ls,some i=>if i.size=ls.length then(O5 P g fs (off+ls.length)).map (ls++·)else none
   |_,_=>none)else none
def Gf(P:Program):Nat→TypeId→Option (List Du)
 |0,_=>none
 |n+1,t=>match P.underlying t with
  |some .bool=>some [.b]
  |some (.int k)=>some [.i k]
  |some .string=>some [.s]
  |some (.struct fs)=>if P.stoodInHeld t then none else O5 P (Gf P n) fs.toList 0
  |some (.array m e)=>(match Gf P n e,P.info? e with
   |some ls,some i=>if i.size=ls.length then some (List.replicate m ls).flatten else none
   |_,_=>none)
  |_=>none
def N5(P:Program)(t:TypeId):Bool:=match P.underlying t with|some (.struct _)|some (.array _ _)=>true|_=>false
theorem Ed:∀{ls:List Du} {vs:List Value},Fit ls vs=true→vs.length=ls.length
 | [],[],_=>rfl
 |l::ls,v::vs,h=>by
  simp only[Fit,Bool.and_eq_true]at h;simp[Ed h.2]
 | [],v::vs,h=>by cases h
 |l::ls,[],h=>by cases h
theorem Jw:∀{ls ls':List Du} {vs:List Value},Fit (ls++ls') vs=true→Fit ls (vs.take ls.length)=true∧Fit ls' (vs.drop ls.length)=true
 | [],ls',vs,h=>⟨by simp[Fit],by simpa using h⟩
 |l::ls,ls',v::vs,h=>by
  simp only[List.cons_append,Fit,Bool.and_eq_true]at h;obtain⟨h1,h2⟩:=Jw h.2;exact⟨by simp only[List.length_cons,List.take_succ_cons,Fit,h.1,h1,Bool.and_self],by simpa using h2⟩
 |l::ls,ls',[],h=>by cases h
theorem Ql:∀(k:Nat) (xs ys:List Value),xs.length=ys.length→eqL xs ys=(eqL (xs.take k) (ys.take k)&&eqL (xs.drop k) (ys.drop k))
 |0,xs,ys,h=>by simp[eqL]
 |k+1,[],[],h=>by simp[eqL]
 |k+1,x::xs,y::ys,h=>by
  simp only[List.take_succ_cons,List.drop_succ_cons,eqL,Ql k xs ys (by simpa using h),Bool.and_assoc]
 |k+1,[],y::ys,h=>by cases h
 |k+1,x::xs,[],h=>by cases h
section
variable{P:Program}
def IsV(P:Program)(t:TypeId)(X:Value)(xs:List Value):Prop:=if N5 P t then X= .agg xs.toArray else xs=[X]
theorem Hd{t:TypeId}{d:TypeDesc}{i:TypeInfo}(hd:P.underlying t=some d)(hi:P.info? t=some i){ls:List Du}(hs:i.size=ls.length){cs:List Value}{off:Nat}(w:World)
  (h1:N5 P t=false→ls.length=1) (hf:Fit ls ((cs.drop off).take ls.length)=true):∃X,(part t cs.toArray off).run P w= .ok X w∧IsV P t X ((cs.drop off).take ls.length):=by
 have hl:=(Ed hf);by_cases ha:N5 P t=true
 ·have hag:(isAgg t).run P w= .ok true w:=by
   unfold N5 at ha;simp only[isAgg,Sem.run_bind,run_underlying hd,Result.andThen_ok];rw[hd]at ha;cases d<;>first|rfl|(simp at ha;done)
  refine⟨.agg (cs.toArray.extract off (off+ls.length)),?_,?_⟩
  ·simp only[part,Sem.run_bind,hag,Result.andThen_ok,if_true,A6 hi,Sem.run_pure,hs]
  ·unfold IsV
   rw[if_pos ha];simp[List.take_drop,Nat.add_comm]
 ·have ha':N5 P t=false:=by simpa using ha
  have hag:(isAgg t).run P w= .ok false w:=by
   unfold N5 at ha';simp only[isAgg,Sem.run_bind,run_underlying hd,Result.andThen_ok];rw[hd]at ha';cases d<;>first|rfl|(simp at ha';done)
  have hl1:=h1 ha';rw[hl1]at hl⊢;have hlt:off<cs.length:=by
   simp at hl;omega
  refine⟨cs[off],?_,?_⟩
  ·have:cs.toArray[off]? =some cs[off]:=by simp[hlt]
   simp only[part,Sem.run_bind,hag,Result.andThen_ok,Bool.false_eq_true,if_false,this,Sem.run_pure]
  ·unfold IsV
   rw[if_neg ha,List.drop_eq_getElem_cons hlt];rfl
def EqT(P:Program)(d:Nat)(t:TypeId)(ls:List Du):Prop:=
 ∀(w:World) (X Y:Value) (xs ys:List Value),IsV P t X xs→IsV P t Y ys→Fit ls xs=true→Fit ls ys=true→(Op.equalIn d t X Y).run P w= .ok (eqL xs ys) w
theorem Tu{n:Nat}{t:TypeId}{ls:List Du}(h:Gf P n t=some ls)(ha:N5 P t=false):ls.length=1:=by
 cases n with
 |zero=>cases h
 |succ n=>
  unfold Gf at h;unfold N5 at ha
  split at h<;>first
   |(injection h with h;rw[←h];rfl)
   |(rename_i hu;rw[hu]at ha;cases ha)
   |cases h
theorem Aai{n:Nat}{t:TypeId}{ls:List Du}(h:Gf P n t=some ls):∃d,P.underlying t=some d:=by
 cases n with
 |zero=>cases h
 |succ n=>
  unfold Gf at h;cases hu:P.underlying t with
  |none=>rw[hu]at h;cases h
  |some d=>exact⟨d,rfl⟩
theorem Kx{n d:Nat}(ih:∀t ls,Gf P n t=some ls→EqT P d t ls)(xs ys:List Value)(w:World):∀(fs:List Field) (off:Nat) (ls:List Du),O5 P (Gf P n) fs off=some ls→
  Fit ls (xs.drop off)=true→Fit ls (ys.drop off)=true→(Op.eqFields d xs.toArray ys.toArray fs).run P w= .ok (eqL (xs.drop off) (ys.drop off)) w
 | [],off,ls,h,hx,hy=>by
  simp only[O5,Option.some.injEq]at h;subst h;have h1:=(Ed hx);have:xs.drop off=[]:=List.eq_nil_of_length_eq_zero h1;simp[Op.eqFields,this,eqL]
 |f::fs,off,ls,h,hx,hy=>by
  simp only[O5]at h;split at h
  ·rename_i hno
   obtain⟨hno,rfl⟩:=hno;split at h
   ·rename_i l1 i hl hi
    split at h
    ·rename_i hsz
     simp only[Option.map_eq_some_iff]at h;obtain⟨l2,h2,rfl⟩:=h;obtain⟨a1,a2⟩:=Jw hx;obtain⟨b1,b2⟩:=Jw hy;obtain⟨dd,hdd⟩:=Aai hl;obtain⟨X,p1,q1⟩:=Hd hdd hi hsz w (Tu hl) a1;obtain⟨Y,p2,q2⟩:=Hd hdd hi hsz w (Tu hl) b1;have he:=ih _ _ hl w X Y _ _ q1 q2 a1 b1;rw[List.drop_drop]at a2 b2;have hr:=Kx ih xs ys w fs _ l2 h2 a2 b2;simp only[Op.eqFields,hno,ne_eq,not_false_eq_true,if_true,Sem.run_bind,p1,p2,he,Result.andThen_ok];rw[Ql l1.length (xs.drop f.offset) (ys.drop f.offset) (by rw[(Ed hx),(Ed hy)]),List.drop_drop,List.drop_drop];cases eqL ((xs.drop f.offset).take l1.length) ((ys.drop f.offset).take l1.length)
     ·simp
     ·simpa using hr
    ·cases h
   ·cases h
  ·cases h
theorem Lw{d m:Nat}{e:TypeId}{ls:List Du}{dd:TypeDesc}{i:TypeInfo}(ih:EqT P d e ls)(h1:N5 P e=false→ls.length=1)(hdd:P.underlying e=some dd)(hi:P.info? e=some i)(hsz:i.size=ls.length)(xs ys:List Value)(w:World):∀(k s:Nat),k+s=m→
  Fit (List.replicate k ls).flatten (xs.drop (s*ls.length))=true→Fit (List.replicate k ls).flatten (ys.drop (s*ls.length))=true→(Op.eqItems d e ls.length xs.toArray ys.toArray (List.range' s k)).run P w= .ok (eqL (xs.drop (s*ls.length)) (ys.drop (s*ls.length))) w
 |0,s,hm,hx,hy=>by
  have h1:=(Ed hx);have:xs.drop (s*ls.length)=[]:=List.eq_nil_of_length_eq_zero h1;simp[Op.eqItems,this,eqL]
 |k+1,s,hm,hx,hy=>by
  rw[List.replicate_succ,List.flatten_cons]at hx hy;obtain⟨a1,a2⟩:=Jw hx;obtain⟨b1,b2⟩:=Jw hy;obtain⟨X,p1,q1⟩:=Hd hdd hi hsz w h1 a1;obtain⟨Y,p2,q2⟩:=Hd hdd hi hsz w h1 b1;have he:=ih w X Y _ _ q1 q2 a1 b1;rw[List.drop_drop,show s*ls.length+ls.length=(s+1)*ls.length by rw[Nat.add_mul];omega]at a2 b2;have hr:=Lw (m:=m) ih h1 hdd hi hsz xs ys w k (s+1) (by omega) a2 b2;rw[List.range'_succ];simp only[Op.eqItems,Sem.run_bind,p1,p2,he,Result.andThen_ok];rw[Ql ls.length (xs.drop (s*ls.length)) (ys.drop (s*ls.length)) (by rw[(Ed hx),(Ed hy)]),List.drop_drop,List.drop_drop,show s*ls.length+ls.length=(s+1)*ls.length by rw[Nat.add_mul];omega];cases eqL ((xs.drop (s*ls.length)).take ls.length) ((ys.drop (s*ls.length)).take ls.length)
  ·simp
  ·simpa using hr
theorem Ud:∀(n:Nat) (t:TypeId) (ls:List Du),Gf P n t=some ls→∀d,EqT P (d+n) t ls
 |0,t,ls,h,d=>by cases h
 |n+1,t,ls,h,d=>by
  intro w X Y xs ys hx hy fx fy;unfold Gf at h;unfold IsV N5 at hx hy;rw[show d+(n+1)=(d+n)+1 from rfl];split at h
  ·rename_i hu
   injection h with h;subst h;rw[hu]at hx hy;simp only[Bool.false_eq_true,if_false]at hx hy;subst hx;subst hy;simp only[Fit,Bool.and_true]at fx fy;cases X<;>first|(simp[Du.ok]at fx;done)|skip
   cases Y<;>first|(simp[Du.ok]at fy;done)|skip
   rw[run_equalIn_bool w _ _ _ _ hu];simp[eqL,Hs]
  ·rename_i k hu
   injection h with h;subst h;rw[hu]at hx hy;simp only[Bool.false_eq_true,if_false]at hx hy;subst hx;subst hy;simp only[Fit,Bool.and_true]at fx fy;cases X<;>first|(simp[Du.ok]at fx;done)|skip
   cases Y<;>first|(simp[Du.ok]at fy;done)|skip
   simp only[Du.ok,decide_eq_true_eq]at fx fy;subst fx;subst fy;rw[run_equalIn_int w _ _ _ _ _ _ hu];simp[eqL,Hs];rfl
  ·rename_i hu
   injection h with h;subst h;rw[hu]at hx hy;simp only[Bool.false_eq_true,if_false]at hx hy;subst hx;subst hy;simp only[Fit,Bool.and_true]at fx fy;cases X<;>first|(simp[Du.ok]at fx;done)|skip
   cases Y<;>first|(simp[Du.ok]at fy;done)|skip
   rename_i a b;rw[run_equalIn_string w _ _ _ _ hu];simp only[eqL,Hs,Bool.and_true];by_cases hab:a=b
   ·subst hab;simp
   ·rw[decide_eq_false hab]
    refine congrArg (fun b=>Result.ok b w) (beq_eq_false_iff_ne.2 fun h'=>hab ?_);have e:∀z:ByteArray,z.toList=z.data.toList:=fun z=>ByteArray.toList_eq z;rw[e,e]at h';cases a;cases b
    simp at h';simp[h']
  ·rename_i fs hu
   split at h
   ·cases h
   ·rename_i hst
    rw[hu]at hx hy;simp only[if_true]at hx hy;subst hx;subst hy;have hfs:P.fieldsOf t=fs:=by simp[Program.fieldsOf,hu]
    rw[run_equalIn_struct w (d+n) t _ _ (by rw[hfs];exact hu) (by simpa using hst),hfs];have:=Kx (fun t ls h=>Ud n t ls h d) xs ys w fs.toList 0 ls h (by simpa using fx) (by simpa using fy);simpa using this
  ·rename_i m e hu
   split at h
   ·rename_i l1 i hl hi
    split at h
    ·rename_i hsz
     injection h with h;subst h;rw[hu]at hx hy;simp only[if_true]at hx hy;subst hx;subst hy;obtain⟨dd,hdd⟩:=Aai hl;have hce:P.cellsOf e=l1.length:=by simp[Program.cellsOf,hi,hsz]
     rw[run_equalIn_array w (d+n) _ _ hu hi,hce,List.range_eq_range'];have:=Lw (m:=m) (Ud n e l1 hl d) (Tu hl) hdd hi hsz xs ys w m 0 rfl (by simpa using fx) (by simpa using fy);simpa using this
    ·cases h
   ·cases h
  ·cases h
theorem Ua{n:Nat}{t:TypeId}{ls:List Du}(h:Gf P n t=some ls)(hn:n≤10000)(ha:N5 P t=true)(w:World){xs ys:List Value}(fx:Fit ls xs=true)(fy:Fit ls ys=true):(Op.equalIn 10000 t (.agg xs.toArray) (.agg ys.toArray)).run P w= .ok (eqL xs ys) w:=by
 have:=Ud n t ls h (10000-n) w (.agg xs.toArray) (.agg ys.toArray) xs ys (by unfold IsV;rw[if_pos ha]) (by unfold IsV;rw[if_pos ha]) fx fy;rwa[Nat.sub_add_cancel hn]at this
end
def Er(P:Program)(t:TypeId):Bool:=match P.underlying t with|some (.pointer _)=>true|_=>false
def isFn(P:Program)(t:TypeId):Bool:=match P.underlying t with|some (.func _ _ _)=>true|_=>false
def Fi(P:Program)(t:TypeId):Bool:=match P.underlying t with|some (.slice _)=>true|_=>false
def Tq(P:Program)(t:TypeId):Bool:=match P.underlying t with|some (.map _ _)=>true|_=>false
def Qw(P:Program)(t:TypeId):Bool:=match P.underlying t with|some .bool=>true|_=>false
def Ga(op:BinOp)(k:IntKind)(x y:Int)(K:AV→Prop):Prop:=
 match op with
 | .add=>K (.v (.int k (k.wrap (x+y))))
 | .sub=>K (.v (.int k (k.wrap (x-y))))
 | .mul=>K (.v (.int k (k.wrap (x*y))))
 | .quo=>y≠0∧K (.v (.int k (k.wrap (x.tdiv y))))
 | .rem=>y≠0∧K (.v (.int k (x.tmod y)))
 | .eql=>K (.v (.bool (decide (x=y))))
 | .neq=>K (.v (.bool (decide (x≠y))))
 | .lss=>K (.v (.bool (decide (x<y))))
 | .leq=>K (.v (.bool (decide (x≤y))))
 | .gtr=>K (.v (.bool (decide (y<x))))
 | .geq=>K (.v (.bool (decide (y≤x))))
 | .shl=>0≤y∧K (.v (.int k (k.wrap (x*2^min y.toNat k.bits))))
 | .shr=>0≤y∧K (.v (.int k (x.fdiv (2^min y.toNat k.bits))))
 | .and=>K (.v (.int k (k.wrap ((BitVec.ofInt k.bits x&&&BitVec.ofInt k.bits y).toNat:Int))))
 | .or=>K (.v (.int k (k.wrap ((BitVec.ofInt k.bits x|||BitVec.ofInt k.bits y).toNat:Int))))
 | .xor=>K (.v (.int k (k.wrap ((BitVec.ofInt k.bits x^^^BitVec.ofInt k.bits y).toNat:Int))))
 | .andNot=>K (.v (.int k (k.wrap ((BitVec.ofInt k.bits x&&& ~~~BitVec.ofInt k.bits y).toNat:Int))))
def K8(op:BinOp)(x y:ByteArray)(K:AV→Prop):Prop:=
 match op with
 | .add=>x.size+y.size≤9223372036854775807∧K (.v (.string (x++y)))
 | .eql=>K (.v (.bool (decide (x=y))))
 | .neq=>K (.v (.bool (decide (x≠y))))
 | .lss=>K (.v (.bool (Op.bytesLess x.toList y.toList)))
 | .leq=>K (.v (.bool (Op.bytesLess x.toList y.toList||decide (x=y))))
 | .gtr=>K (.v (.bool (!(Op.bytesLess x.toList y.toList||decide (x=y)))))
 | .geq=>K (.v (.bool (!Op.bytesLess x.toList y.toList)))
 |_=>False
def aggV:AV→Option (List AV)
 | .agg cs=>some cs
 | .v (.agg q)=>some (q.toList.map .v)
 |_=>none
def Rt:List AV→Option (List Value)
 | []=>some []
 | .v x::l=>(Rt l).map (x::·)
 |_=>none
def Rp(P:Program)(neg:Bool)(t:TypeId)(x y:AV)(K:AV→Prop):Prop:=
 N5 P t=true∧P.eqGuardType P.depth t=false∧∃xs ys vs ws ls,aggV x=some xs∧aggV y=some ys∧Rt xs=some vs∧Rt ys=some ws∧Gf P 9 t=some ls∧Fit ls vs=true∧Fit ls ws=true∧K (.v (.bool (if neg then !eqL vs ws else eqL vs ws)))
def aEqv(P:Program)(neg:Bool)(t:TypeId)(x y:AV)(K:AV→Prop):Prop:=
 match x,y with
 | .v (.bool a),.v (.bool b)=>Qw P t=true∧K (.v (.bool (if neg then decide (a≠b)else decide (a=b))))
 | .v (.pointer p),.v (.pointer none)=>Er P t=true∧K (.v (.bool (if neg then p.isSome else p.isNone)))
 | .v (.pointer none),.v (.pointer p)=>Er P t=true∧K (.v (.bool (if neg then p.isSome else p.isNone)))
 | .fp _,.v (.pointer none)=>Er P t=true∧K (.v (.bool neg))
 | .rp _ _ _ _,.v (.pointer none)=>Er P t=true∧K (.v (.bool neg))
 | .v (.slice a _ _),.v (.slice none 0 0)=>Fi P t=true∧K (.v (.bool (if neg then a.isSome else a.isNone)))
 | .sl _ es,.v (.slice none 0 0)=>Fi P t=true∧(es≠[]→K (.v (.bool neg)))∧(es=[]→∀b,K (.v (.bool b)))
 | .fsl _ es,.v (.slice none 0 0)=>Fi P t=true∧(es≠[]→K (.v (.bool neg)))∧(es=[]→∀b,K (.v (.bool b)))
 | .v (.map m),.v (.map none)=>Tq P t=true∧K (.v (.bool (if neg then m.isSome else m.isNone)))
 | .v (.func _ _ _),.v .nilFunc=>isFn P t=true∧K (.v (.bool neg))
 | .v .nilFunc,.v .nilFunc=>isFn P t=true∧K (.v (.bool !neg))
 |_,_=>False
def Rr(P:Program)(neg:Bool)(t:TypeId)(x y:AV)(K:AV→Prop):Prop:=
 match aggV x with
 |some _=>Rp P neg t x y K
 |none=>aEqv P neg t x y K
def isSh:BinOp→Bool
 | .shl| .shr=>true
 |_=>false
def D9(P:Program)(op:BinOp)(t:TypeId)(x y:AV)(K:AV→Prop):Prop:=
 match x,y with
 | .v (.int k a),.v (.int k' b)=>(k=k'∨isSh op=true)∧Ga op k a b K
 | .v (.string a),.v (.string b)=>K8 op a b K
 |x,y=>match op with
  | .eql=>Rr P false t x y K
  | .neq=>Rr P true t x y K
  |_=>False
theorem Uj(x y:ByteArray):(x.toList==y.toList)=decide (x=y):=by
 by_cases h:x=y
 ·subst h;simp
 ·rw[decide_eq_false h]
  refine beq_eq_false_iff_ne.2 fun h'=>h ?_;have:x.data.toList=y.data.toList:=by
   have e:∀z:ByteArray,z.toList=z.data.toList:=fun z=>ByteArray.toList_eq z;rw[←e x,←e y,h']
  cases x;cases y
  simp at this;simp[this]
section
variable{P:Program}{o:Oper}{n:Nat}{fr:Fr}{a:Act}{F:Bl}{w:World}{σ:St}{k:AV→Prop}
theorem Apt{op:BinOp}(t:TypeId){ik:IntKind}{x y:Int}(h:Ga op ik x y k):∃v,(binOp op t (.int ik x) (.int ik y)).run P w= .ok v w∧k (.v v):=by
 cases op<;>simp only[Ga]at h
 case add=>refine⟨_,?_,h⟩;simp[binOp,Op.intArith]
 case sub=>refine⟨_,?_,h⟩;simp[binOp,Op.intArith]
 case mul=>refine⟨_,?_,h⟩;simp[binOp,Op.intArith]
 case quo=>refine⟨_,?_,h.2⟩;simp[binOp,Op.intDiv,h.1]
 case rem=>refine⟨_,?_,h.2⟩;simp[binOp,Op.intDiv,h.1]
 case shl=>refine⟨_,?_,h.2⟩;simp[binOp,Op.shift,Int.not_lt.2 h.1]
 case shr=>refine⟨_,?_,h.2⟩;simp[binOp,Op.shift,Int.not_lt.2 h.1]
 case and=>refine⟨_,?_,h⟩;simp[binOp,Op.intBits]
 case or=>refine⟨_,?_,h⟩;simp[binOp,Op.intBits]
 case xor=>refine⟨_,?_,h⟩;simp[binOp,Op.intBits]
 case andNot=>refine⟨_,?_,h⟩;simp[binOp,Op.intBits]
 case neq=>refine⟨_,?_,h⟩;simp only[binOp,ne_eq,not_true_eq_false,if_false,Op.intCmp,bne,decide_not];rfl
 all_goals (refine⟨_,?_,h⟩;simp only[binOp,ne_eq,not_true_eq_false,if_false,Op.intCmp];rfl)
theorem Asx{op:BinOp}(hs:isSh op=true)(t:TypeId){ik ik':IntKind}{x y:Int}(h:Ga op ik x y k):∃v,(binOp op t (.int ik x) (.int ik' y)).run P w= .ok v w∧k (.v v):=by
 cases op<;>simp only[isSh,Bool.false_eq_true]at hs<;>simp only[Ga]at h
 case shl=>refine⟨_,?_,h.2⟩;simp[binOp,Op.shift,Int.not_lt.2 h.1]
 case shr=>refine⟨_,?_,h.2⟩;simp[binOp,Op.shift,Int.not_lt.2 h.1]
theorem Apu{op:BinOp}(t:TypeId){x y:ByteArray}(h:K8 op x y k):∃v,(binOp op t (.string x) (.string y)).run P w= .ok v w∧k (.v v):=by
 have hb:=Uj x y;cases op<;>simp only[K8]at h
 case add=>
  refine⟨_,?_,h.2⟩;have hle:¬(((x.size+y.size:Nat):Int)>IntKind.i64.max):=by
   have:=h.1;simp[IntKind.max,IntKind.signed,IntKind.bits];omega
  simp only[binOp,Op.stringOp,hle,if_false];rfl
 case neq=>refine⟨_,?_,h⟩;simp only[binOp,Op.stringOp,hb,decide_not];rfl
 all_goals (refine⟨_,?_,h⟩;simp only[binOp,Op.stringOp,hb];rfl)
theorem Ag4{t:TypeId}(hu:P.underlying t=some .bool)(p q:Bool):(Op.equal t (.bool p) (.bool q)).run P w= .ok (p==q) w:=by
 have:∀d,(Op.equalIn (d+1) t (.bool p) (.bool q)).run P w= .ok (p==q) w:=fun d=>by
  simp[Op.equalIn,run_underlying hu]
 exact this 9999
theorem Tf{t e:TypeId}(hu:P.underlying t=some (.pointer e))(p:Option Addr):(Op.equal t (.pointer p) (.pointer none)).run P w= .ok p.isNone w:=by
 have:∀d,(Op.equalIn (d+1) t (.pointer p) (.pointer none)).run P w= .ok p.isNone w:=fun d=>by
  cases p<;>simp[Op.equalIn,run_underlying hu]
 exact this 9999
theorem Ag6{t e:TypeId}(hu:P.underlying t=some (.pointer e))(p:Option Addr):(Op.equal t (.pointer none) (.pointer p)).run P w= .ok p.isNone w:=by
 have:∀d,(Op.equalIn (d+1) t (.pointer none) (.pointer p)).run P w= .ok p.isNone w:=fun d=>by
  simp[Op.equalIn,run_underlying hu]
 exact this 9999
theorem If{t e:TypeId}(hu:P.underlying t=some (.slice e))(p:Option Addr)(n c:Nat):(Op.equal t (.slice p n c) (.slice none 0 0)).run P w= .ok p.isNone w:=by
 have:∀d,(Op.equalIn (d+1) t (.slice p n c) (.slice none 0 0)).run P w= .ok p.isNone w:=fun d=>by
  cases p<;>simp[Op.equalIn,run_underlying hu]
 exact this 9999
theorem Z1{t e f:TypeId}(hu:P.underlying t=some (.map e f))(p:Option Nat):(Op.equal t (.map p) (.map none)).run P w= .ok p.isNone w:=by
 have:∀d,(Op.equalIn (d+1) t (.map p) (.map none)).run P w= .ok p.isNone w:=fun d=>by
  cases p<;>simp[Op.equalIn,run_underlying hu]
 exact this 9999
theorem Ag5{t:TypeId}{a b c:_}(hu:P.underlying t=some (.func a b c))(f:Fn)(x y:Array Value):(Op.equal t (.func f x y) .nilFunc).run P w= .ok false w:=by
 have:∀d,(Op.equalIn (d+1) t (.func f x y) .nilFunc).run P w= .ok false w:=fun d=>by
  simp[Op.equalIn,run_underlying hu]
 exact this 9999
theorem Ajn{t:TypeId}{a b c:_}(hu:P.underlying t=some (.func a b c)):(Op.equal t .nilFunc .nilFunc).run P w= .ok true w:=by
 have:∀d,(Op.equalIn (d+1) t .nilFunc .nilFunc).run P w= .ok true w:=fun d=>by
  simp[Op.equalIn,run_underlying hu]
 exact this 9999
theorem Af1{neg:Bool}{t:TypeId}{x y:AV}{X Y:Value}(hx:RV F w x X)(hy:RV F w y Y)(h:aEqv P neg t x y k):∃b:Bool,(Op.equal t X Y).run P w= .ok b w∧k (.v (.bool (if neg then !b else b)))∧(∀q,X≠.agg q)∧X≠.nilIface∧(∀q r,X≠.int q r)∧(∀q,X≠.string q)∧(∀q r,X≠.float q r)∧(∀q r s,X≠.complex q r s):=by
 unfold aEqv at h;split at h
 ·have ex:=hx.eq
  have ey:=hy.eq;subst ex;subst ey;rename_i p q;obtain⟨h1,h2⟩:=h;unfold Qw at h1;split at h1
  ·rename_i hu
   refine⟨p==q,Ag4 hu p q,?_,by simp,by simp,by simp,by simp,by simp,by simp⟩;cases neg<;>cases p<;>cases q<;>exact h2
  ·cases h1
 ·have ex:=hx.eq
  have ey:=hy.eq;subst ex;subst ey;rename_i p;obtain⟨h1,h2⟩:=h;unfold Er at h1;split at h1
  ·rename_i e hu
   refine⟨p.isNone,Tf hu p,?_,by simp,by simp,by simp,by simp,by simp,by simp⟩
   ·cases neg<;>cases p<;>exact h2
  ·cases h1
 ·have ex:=hx.eq
  have ey:=hy.eq;subst ex;subst ey;rename_i p _;obtain⟨h1,h2⟩:=h;unfold Er at h1;split at h1
  ·rename_i e hu
   refine⟨p.isNone,Ag6 hu p,?_,by simp,by simp,by simp,by simp,by simp,by simp⟩
   ·cases neg<;>cases p<;>exact h2
  ·cases h1
 ·have ey:=hy.eq
  subst ey;obtain⟨h1,h2⟩:=h;unfold Er at h1;split at h1
  ·rename_i e hu
   cases hx with
   |fp _ b p c _ hF hc hr=>
    exact⟨false,Tf hu _,by cases neg<;>exact h2,by simp,by simp,by simp,by simp,by simp,by simp⟩
  ·cases h1
 ·have ey:=hy.eq
  subst ey;obtain⟨h1,h2⟩:=h;unfold Er at h1;split at h1
  ·rename_i e hu
   cases hx
   exact⟨false,Tf hu _,by cases neg<;>exact h2,by simp,by simp,by simp,by simp,by simp,by simp⟩
  ·cases h1
 ·have ex:=hx.eq
  have ey:=hy.eq;subst ex;subst ey;obtain⟨h1,h2⟩:=h;unfold Fi at h1;split at h1
  ·rename_i p _ _ _ e hu
   refine⟨_,If hu _ _ _,?_,by simp,by simp,by simp,by simp,by simp,by simp⟩;cases neg
   ·exact h2
   ·simpa using h2
  ·cases h1
 ·rename_i q es
  have ey:=hy.eq;subst ey;obtain⟨h1,h2,h3⟩:=h;unfold Fi at h1;split at h1
  ·rename_i e hu
   cases hx with
   |sl0 _ ad cap=>exact⟨_,If hu _ _ _,h3 rfl _,by simp,by simp,by simp,by simp,by simp,by simp⟩
   |sl _ _ b p c nn cap hn hk hcap hF hc hr=>
    refine⟨false,If hu _ _ _,?_,by simp,by simp,by simp,by simp,by simp,by simp⟩;by_cases he:es=[]
    ·exact h3 he _
    ·have:=h2 he
     cases neg<;>exact this
  ·cases h1
 ·rename_i q es
  have ey:=hy.eq;subst ey;obtain⟨h1,h2,h3⟩:=h;unfold Fi at h1;split at h1
  ·rename_i e hu
   cases hx with
   |fsl0 _ ad=>exact⟨_,If hu _ _ _,h3 rfl _,by simp,by simp,by simp,by simp,by simp,by simp⟩
   |fsl _ _ b p c nn hn hk hF hc hr=>
    refine⟨false,If hu _ _ _,?_,by simp,by simp,by simp,by simp,by simp,by simp⟩;by_cases he:es=[]
    ·exact h3 he _
    ·have:=h2 he
     cases neg<;>exact this
  ·cases h1
 ·have ex:=hx.eq
  have ey:=hy.eq;subst ex;subst ey;obtain⟨h1,h2⟩:=h;unfold Tq at h1;split at h1
  ·rename_i e f hu
   refine⟨_,Z1 hu _,?_,by simp,by simp,by simp,by simp,by simp,by simp⟩;cases neg
   ·exact h2
   ·simpa using h2
  ·cases h1
 ·have ex:=hx.eq
  have ey:=hy.eq;subst ex;subst ey;obtain⟨h1,h2⟩:=h;unfold isFn at h1;split at h1
  ·rename_i hu
   refine⟨_,Ag5 hu _ _ _,?_,by simp,by simp,by simp,by simp,by simp,by simp⟩;cases neg<;>exact h2
  ·cases h1
 ·have ex:=hx.eq
  have ey:=hy.eq;subst ex;subst ey;obtain⟨h1,h2⟩:=h;unfold isFn at h1;split at h1
  ·rename_i hu
   refine⟨_,Ajn hu,?_,by simp,by simp,by simp,by simp,by simp,by simp⟩;cases neg<;>exact h2
  ·cases h1
 ·exact h.elim
theorem Agg{F:Bl}{w:World}:∀{xs:List AV} {vs:List Value} {l:List Value},Rt xs=some vs→l.length=xs.length→(∀j,j<xs.length→RV F w (xs.getD j (.v undef)) (l.getD j undef))→l=vs
 | [],vs,[],h,_,_=>by injection h
 | .v x::xs,vs,y::l,h,hl,hr=>by
  simp only[Rt,Option.map_eq_some_iff]at h;obtain⟨vs',h1,rfl⟩:=h;have h0:=(hr 0 (by simp)).eq;have:=Agg h1 (by simpa using hl) (fun j hj=>by simpa using hr (j+1) (by simpa using hj));simp at h0;rw[h0,this]
 | [],vs,y::l,h,hl,_=>by simp at hl
 |x::xs,vs,[],h,hl,_=>by simp at hl
 | .sl _ _::xs,vs,y::l,h,hl,_=>by cases h
 | .fsl _ _::xs,vs,y::l,h,hl,_=>by cases h
 | .fp _::xs,vs,y::l,h,hl,_=>by cases h
 | .rp _ _ _ _::xs,vs,y::l,h,hl,_=>by cases h
 | .agg _::xs,vs,y::l,h,hl,_=>by cases h
 | .tup _::xs,vs,y::l,h,hl,_=>by cases h
theorem Amc:∀(l:List Value),Rt (l.map .v)=some l
 | []=>rfl
 |x::l=>by simp[Rt,Amc l]
theorem Ail{F:Bl}{w:World}{x:AV}{X:Value}{xs:List AV}{vs:List Value}(hx:RV F w x X)(ha:aggV x=some xs)(hv:Rt xs=some vs):X= .agg vs.toArray:=by
 unfold aggV at ha;split at ha
 ·injection ha with ha
  subst ha;cases hx with
  |agg _ q hl h=>
   have:=Agg (l:=q.toList) hv (by simpa using hl) (fun j hj=>by
    have:=h j hj;simpa[Array.getD_eq_getD_getElem?,List.getD_eq_getElem?_getD]using this)
   rw[←this]
 ·injection ha with ha
  subst ha;rw[hx.eq];rw[Amc]at hv;injection hv with hv;rw[←hv]
 ·cases ha
theorem Wb{op:BinOp}{neg:Bool}{t ty:TypeId}{x y:Operand}(ho:o.op= .binOp op t x y ty)(hop:op=if neg then .neq else .eql){p q:AV}(hvx:RV F w p (a.eval x))(hvy:RV F w q (a.eval y))(h:Rp P neg t p q k):D8 P o a F w k:=by
 obtain⟨h1,h2,xs,ys,vs,ws,ls,e1,e2,e3,e4,e5,e6,e7,hk⟩:=h;have hX:=Ail hvx e1 e3;have hY:=Ail hvy e2 e4;have hr:=Ua e5 (by decide) h1 w e6 e7;have hg:(eqGuard op t x y (a.eval x) (a.eval y)).run P w= .ok () w:=by rw[hX,hY];exact run_eqGuard_agg w op t x y _ _ h2
 cases neg
 ·simp only[Bool.false_eq_true,if_false]at hop hk
  subst hop;exact⟨_,_,by simp only[execOp,ho,Sem.run_bind,hg,Result.andThen_ok];rw[hX,hY];simp only[run_eql_struct,hr,Result.andThen_ok,Sem.run_pure],.v _,hk⟩
 ·simp only[if_true]at hop hk
  subst hop;exact⟨_,_,by simp only[execOp,ho,Sem.run_bind,hg,Result.andThen_ok];rw[hX,hY];simp only[run_neq_struct,hr,Result.andThen_ok,Sem.run_pure],.v _,hk⟩
theorem Ah0{op:BinOp}{t ty:TypeId}{x y:Operand}(ho:o.op= .binOp op t x y ty)(hx:Bb n x=true)(hy:Bb n y=true)(hf:Bc F w n fr a)(h:D9 P op t (fr.ev x) (fr.ev y) k):D8 P o a F w k:=by
 have hvx:=hf.ev x hx;have hvy:=hf.ev y hy;have hgo:∀v,(∀q,a.eval x≠.agg q)→a.eval x≠.nilIface→(binOp op t (a.eval x) (a.eval y)).run P w= .ok v w→(execOp a.eval o).run P w= .ok (.value v) w:=fun v n1 n2 hv=>by
  have hg:(eqGuard op t x y (a.eval x) (a.eval y)).run P w= .ok () w:=by
   unfold eqGuard;cases hX:a.eval x with
   |nilIface=>exact absurd hX n2
   |agg q=>exact absurd hX (n1 q)
   |_=>by_cases hop:(op matches .eql| .neq)=true<;>simp[hop]
  simp[execOp,ho,hg,hv]
 revert h hvx hvy;generalize fr.ev x=p;generalize fr.ev y=q;intro h hvx hvy;unfold D9 at h;split at h
 ·have ex:=hvx.eq
  have ey:=hvy.eq;obtain⟨rfl|hs,h⟩:=h
  ·obtain⟨v,hr,hk⟩:=Apt (P:=P) (w:=w) t h
   exact⟨v,_,hgo v (by simp[ex]) (by simp[ex]) (by rw[ex,ey];exact hr),.v _,hk⟩
  ·obtain⟨v,hr,hk⟩:=Asx (P:=P) (w:=w) hs t h
   exact⟨v,_,hgo v (by simp[ex]) (by simp[ex]) (by rw[ex,ey];exact hr),.v _,hk⟩
 ·have ex:=hvx.eq
  have ey:=hvy.eq;obtain⟨v,hr,hk⟩:=Apu (P:=P) (w:=w) t h;exact⟨v,_,hgo v (by simp[ex]) (by simp[ex]) (by rw[ex,ey];exact hr),.v _,hk⟩
 ·split at h
  ·unfold Rr at h
   split at h
   ·exact Wb (neg:=false) ho rfl hvx hvy h
   obtain⟨b,hr,hk,n1,n2,n3,n4,n5,n6⟩:=Af1 hvx hvy h;refine⟨.bool b,_,hgo _ n1 n2 ?_,.v _,by simpa using hk⟩;cases hX:a.eval x with
   |int=>exact absurd hX (n3 _ _)
   |string=>exact absurd hX (n4 _)
   |float=>exact absurd hX (n5 _ _)
   |complex=>exact absurd hX (n6 _ _ _)
   |_=>rw[hX]at hr;simp[binOp,hr]
  ·unfold Rr at h
   split at h
   ·exact Wb (neg:=true) ho rfl hvx hvy h
   obtain⟨b,hr,hk,n1,n2,n3,n4,n5,n6⟩:=Af1 hvx hvy h;refine⟨.bool !b,_,hgo _ n1 n2 ?_,.v _,by simpa using hk⟩;cases hX:a.eval x with
   |int=>exact absurd hX (n3 _ _)
   |string=>exact absurd hX (n4 _)
   |float=>exact absurd hX (n5 _ _)
   |complex=>exact absurd hX (n6 _ _ _)
   |_=>rw[hX]at hr;simp[binOp,hr]
  ·exact h.elim
def aUn(op:UnOp)(x:AV)(k:AV→Prop):Prop:=
 match op,x with
 | .not,.v (.bool b)=>k (.v (.bool (!b)))
 | .neg,.v (.int ik m)=>k (.v (.int ik (ik.wrap (0-m))))
 | .xor,.v (.int ik m)=>k (.v (.int ik (ik.wrap ((BitVec.ofInt ik.bits (if ik.signed then-1 else ik.max)^^^BitVec.ofInt ik.bits m).toNat:Int))))
 |_,_=>False
theorem Al1{op:UnOp}{t:TypeId}{x:Operand}(ho:o.op= .unOp op t x)(hx:Bb n x=true)(hf:Bc F w n fr a)(h:aUn op (fr.ev x) k):D8 P o a F w k:=by
 have hv:=hf.ev x hx;revert h hv;generalize fr.ev x=p;intro h hv;unfold aUn at h;split at h
 ·have ex:=hv.eq
  exact⟨_,_,by simp[execOp,ho,ex,Op.unary],.v _,h⟩
 ·have ex:=hv.eq
  exact⟨_,_,by simp[execOp,ho,ex,Op.unary,Op.intArith],.v _,h⟩
 ·have ex:=hv.eq
  exact⟨_,_,by simp[execOp,ho,ex,Op.unary,Op.intBits],.v _,h⟩
 ·exact h.elim
def Ib(b:UInt8):List AV:=[.v (.int .u8 (b.toNat:Int))]
theorem Sw(l:List UInt8)(i:Nat)(hi:i<l.length):((l.map Ib).getD i []).getD 0 (.v undef)= .v (.int .u8 ((l.getD i 0).toNat:Int)):=by
 have e:(l.map Ib)[i]? =some (Ib l[i]):=by rw[List.getElem?_map,List.getElem?_eq_getElem hi];rfl
 have e2:l[i]? =some l[i]:=List.getElem?_eq_getElem hi;simp only[List.getD_eq_getElem?_getD,e,e2];rfl
theorem Wn(l:List UInt8)(i:Nat)(hi:i<l.length):(l.map fun b=>Value.int .u8 (b.toNat:Int)).getD i undef= .int .u8 ((l.getD i 0).toNat:Int):=by
 have e:(l.map fun b=>Value.int .u8 (b.toNat:Int))[i]? =some (.int .u8 (l[i].toNat:Int)):=by rw[List.getElem?_map,List.getElem?_eq_getElem hi];rfl
 have e2:l[i]? =some l[i]:=List.getElem?_eq_getElem hi;simp only[List.getD_eq_getElem?_getD,e,e2];rfl
def Wy:List AV→UInt8
 | [.v (.int .u8 m)]=>UInt8.ofNat m.toNat
 |_=>0
def Nr:List AV→Bool
 | [.v (.int .u8 _)]=>true
 |_=>false
def Ug(es:List (List AV)):ByteArray:=⟨(es.map Wy).toArray⟩
def Ji(i j:Option TK)(σ:St)(x:AV)(k:AV→St→Prop):Prop:=
 match i,j with
 |some i,some j=>match i.td,j.td,x with
  | .int _,.int ik,.v (.int _ m)=>k (.v (.int ik (ik.wrap m))) σ
  | .str,.str,.v (.string s)=>k (.v (.string s)) σ
  | .str,.sl 1 _ _ true,.v (.string s)=>∀b cap,σ b=none→s.size≤cap→k (.v (.slice (some ⟨b,0,none⟩) s.size cap)) (σ.set b (.rows 1 (s.data.toList.map Ib) false cap))
  | .sl 1 _ _ true,.str,x=>∃es,P6 1 σ x=some es∧es.all Nr=true∧k (.v (.string (Ug es))) σ
  |_,_,_=>False
 |_,_=>False
end
section
variable{P:Program}{o:Oper}{n:Nat}{fr:Fr}{a:Act}{F:Bl}{w:World}{σ:St}{k:AV→St→Prop}
theorem Ym{d:TypeDesc}{ik:IntKind}(h:Di P d= .int ik):d= .int ik:=by
 cases d with
 |array n e=>simp only[Di]at h;(repeat' split at h)<;>cases h
 |struct e=>simp only[Di]at h;(repeat' split at h)<;>cases h
 |slice e=>simp only[Di]at h;(repeat' split at h)<;>cases h
 |int kk=>simp[Di]at h;rw[h]
 |_=>simp[Di]at h
theorem Uh:∀(es:List (List AV)),es.all Nr=true→∃xs:List Int,es=xs.map (fun m=>[AV.v (.int .u8 m)])∧Ug es=strOfNums xs
 | [],_=>⟨[],rfl,rfl⟩
 |e::es,h=>by
  simp only[List.all_cons,Bool.and_eq_true]at h;obtain⟨xs,h1,h2⟩:=Uh es h.2;have he:=h.1;unfold Nr at he;split at he
  ·rename_i m
   refine⟨m::xs,by rw[h1];rfl,?_⟩;subst h1;simp[Ug,strOfNums,Wy]at h2⊢
  ·cases he
theorem Adm{s d:TypeId}{x:Operand}(ho:o.op= .convert s d x)(hx:Bb n x=true)(hf:Bc F w n fr a)(hs:Rel F w σ)(h:Ji (tk P s) (tk P d) σ (fr.ev x) k):Gk P o a F w σ k:=by
 cases h1:tk P s with
 |none=>simp[h1,Ji]at h
 |some i=>
  cases h2:tk P d with
  |none=>simp[h1,h2,Ji]at h
  |some j=>
   obtain⟨i1,d1,z1,a1,a2,a3,a4,a5,a6,a7,a8⟩:=Br h1;obtain⟨i2,d2,z2,b1,b2,b3,b4,b5,b6,b7,b8⟩:=Br h2;simp only[h1,h2,Ji]at h;have hv:=hf.ev x hx;have hgo:∀y w',(convert s d (a.eval x)).run P w= .ok y w'→(execOp a.eval o).run P w= .ok (.value y) w':=fun y w' hy=>by
    simp[execOp,ho,hy]
   generalize hti:i.td=ti at h;generalize htj:j.td=tj at h;rw[hti]at a7;rw[htj]at b7;revert h hv;generalize fr.ev x=p;intro hv h;split at h
   ·rename_i ik' ik _ m
    have e1:=Ym (P:=P) (d:=d1) a7.symm;have e2:=Ym (P:=P) (d:=d2) b7.symm;subst e1;subst e2;have ex:=hv.eq;refine Cl hs (hgo _ _ ?_) (.v _) h;simp[ex,convert,run_underlying a2,run_underlying b2,Conv.intToInt]
   ·have e1:=Ly (P:=P) (d:=d1) a7.symm
    have e2:=Ly (P:=P) (d:=d2) b7.symm;subst e1;subst e2;have ex:=hv.eq;refine Cl hs (hgo _ _ ?_) (.v _) h;simp[ex,convert,run_underlying a2,run_underlying b2]
   ·rename_i _ _ str
    have e1:=Ly (P:=P) (d:=d1) a7.symm;subst e1;obtain⟨e,ie,ze,rfl,k1,k2,k3,k4,k5,k6,k7⟩:=J7 (P:=P) b7.symm;have hu8:P.underlying e=some (.int .u8):=k7 rfl;have ex:=hv.eq;have hrun:=Lib.run_convert_string_bytes w s d e str a2 b2 hu8
    have hkp:B9 F w F (Lib.bytesWorld w e str):=⟨fun _=>Nat.le_refl _,fun b off hb=>by
     have hlt:b<w.heap.size:=by
      rcases Nat.lt_or_ge b w.heap.size with h'|h'
      ·exact h'
      ·have:=hs.lt b h';omega
     exact Lib.bytesWorld_old w e str _ hlt⟩
    have hcap:str.size≤grownCap w str.size 0 e:=grownCap_ge w _ _ _;have hsz:(Lib.bytesCells w e str).size=grownCap w str.size 0 e:=by
     have hds:str.data.size=str.size:=rfl;simp only[Lib.bytesCells,Array.size_append,Array.size_map,Array.size_replicate];omega
    have hlen:(str.data.toList.map Ib).length=str.size:=by rw[List.length_map,Array.length_toList];rfl
    refine Ba (σ':=σ.set w.heap.size (.rows 1 (str.data.toList.map Ib) false (grownCap w str.size 0 e))) (hgo _ _ (by rw[ex];exact hrun)) (F':=F) ⟨hkp,rfl,rfl,rfl,by rw[Lib.bytesWorld_size];omega,fun b hb hn=>⟨Lib.bytesWorld_at_old w e str b hb,?_,rfl⟩⟩ ⟨fun b t hb=>?_,fun b hb=>hs.lt b (by rw[Lib.bytesWorld_size]at hb;omega)⟩ (.v _) (h _ _ (Cc hs (Nat.le_refl _)) hcap)
    ·simp only[St.set]
     rw[if_neg (by omega)];exact hn
    ·simp only[St.set]at hb
     by_cases hbb:b=w.heap.size
     ·rw[if_pos hbb]at hb
      injection hb with hb;subst hb;subst hbb;refine⟨_,_,_,Lib.bytesWorld_at_new w e str,by rw[hsz];omega,by rw[hlen];exact hcap,fun q hq=>?_,fun i hi=>by simp only;omega,by rw[hs.lt _ (Nat.le_refl _)];rfl,fun i j hi hj=>?_⟩
      ·obtain⟨q',_,rfl⟩:=List.mem_map.1 hq
       exact⟨rfl,rfl⟩
      ·obtain rfl:j=0:=by omega
       rw[hlen]at hi;have hi':i<str.data.toList.length:=by rw[Array.length_toList];exact hi
       have e1:=Sw str.data.toList i hi';have e2:(Lib.bytesCells w e str).getD (i*1+0) undef= .int .u8 ((str.data.toList.getD i 0).toNat:Int):=by
        have:=Wn str.data.toList i hi';rw[←this,Array.getD_eq_getD_getElem?,Lib.bytesCells,Array.getElem?_append_left (by rw[Array.size_map];rw[Array.length_toList]at hi';omega),List.getD_eq_getElem?_getD,Nat.mul_one,Nat.add_zero,←Array.toList_map,Array.getElem?_toList]
       rw[e1,e2];exact .v _
     ·rw[if_neg hbb]at hb
      exact(hs.obj b t hb).mono hkp (Lib.bytesWorld_at_old w e str b (hs.lt_size hb)) rfl
   ·have e2:=Ly (P:=P) (d:=d2) b7.symm
    subst e2;obtain⟨e,ie,ze,rfl,k1,k2,k3,k4,k5,k6,k7⟩:=J7 (P:=P) a7.symm;have hu8:P.underlying e=some (.int .u8):=k7 rfl;obtain⟨es,hview,hb,hk⟩:=h;obtain⟨F',hsl⟩:=Amd hs hview hv;obtain⟨xs,rfl,hstr⟩:=Uh es hb;rw[hstr]at hk;refine Cl hs (hgo _ _ ?_) (.v _) hk;generalize a.eval x=X at hsl;generalize hes:xs.map (fun m=>[AV.v (.int .u8 m)])=es at hsl;cases hsl with
    |sl0 _ ad cap=>
     obtain rfl:xs=[]:=by simpa using hes
     cases ad with
     |none=>exact run_convert_bytes_nil w s e a2 hu8 0 cap d b2
     |some ad=>
      have:=run_convert_bytes_arg w s e a2 hu8 ad.block ad.off 0 cap [] rfl (fun i hi=>by omega) d b2;rw[run_convert_bytes_string w s d e _ 0 cap a2 hu8 b2];simp[Conv.bytesToString,loadCells,loadCellsFrom];rfl
    |sl _ _ b p c nn cap hn hk hcap hF hc hr=>
     have hl:es.length=xs.length:=by rw[←hes];simp
     refine run_convert_bytes_arg w s e a2 hu8 b p nn cap xs (by omega) (fun i hi=>?_) d b2;have h1:=hc i (by omega);have h2:=hr i 0 (by omega) (by omega);have e1:(es.getD i []).getD 0 (.v undef)= .v (.int .u8 (xs.getD i 0)):=by
      rw[←hes];have hi':i<xs.length:=by omega
      simp[List.getD_eq_getElem?_getD,hi']
     rw[e1]at h2;rw[h1,←h2.eq];simp
   ·exact h.elim
end
def src(q:Nat)(byt:Bool)(σ:St):AV→Option (List (List AV))
 | .sl q' es=>if q'=q then some es else none
 | .fsl q' es=>if q'=q then some es else none
 | .v (.slice none 0 0)=>some []
 | .v (.slice (some ⟨b,p,none⟩) n cap)=>match σ b with
  |some (.rows q' es _ cap')=>if q'=q∧p % q=0∧p/q+n≤es.length then some ((es.drop (p/q)).take n)else none
  |_=>none
 | .v (.string s)=>if byt=true∧q=1 then some (s.data.toList.map Ib)else none
 |_=>none
section
variable{P:Program}{o:Oper}{n:Nat}{fr:Fr}{a:Act}{F:Bl}{w:World}{σ:St}{k:AV→St→Prop}
theorem Im(c:Nat→Value)(m j:Nat)(h:j<m):(((List.range m).map c)).getD j undef=c j:=by
 simp[List.getD_eq_getElem?_getD,h]
theorem Jg(hs:Rel F w σ){q:Nat}{byt:Bool}{x:AV}{X:Value}{ys:List (List AV)}(h:src q byt σ x=some ys)(hv:RV F w x X):
  ∃vs:List Value,vs.length=ys.length*q∧(∀w',(Builtin.lenOf X).run P w'= .ok ys.length w')∧(∀w':World,w'.heap=w.heap→(Builtin.firstCells q ys.length X).run P w'= .ok vs.toArray w')∧(∀e∈ys,e.length=q∧e.all AV.one=true)∧
   ∀i j,i<ys.length→j<q→RV F w ((ys.getD i []).getD j (.v undef)) (vs.getD (i*q+j) undef):=by
 have hidx:∀i j,i<ys.length→j<q→i*q+j<ys.length*q:=fun i j hi hj=>by
  have:(i+1)*q≤ys.length*q:=Nat.mul_le_mul_right _ hi;rw[Nat.succ_mul]at this;omega
 have mem:∀(b p:Nat) (c:Nat→Value) (n cap:Nat),(∀j,j<ys.length*q→w.cell? ⟨b,p+j,none⟩=some (c j))→∀w':World,w'.heap=w.heap→(Builtin.firstCells q ys.length (.slice (some ⟨b,p,none⟩) n cap)).run P w'= .ok ((List.range (ys.length*q)).map c).toArray w':=fun b p c n cap hc w' hw=>by
  unfold Builtin.firstCells
  exact run_loadCells w' _ _ c (fun j hj=>by
   rw[Addr.add_mid];have:=hc j hj;simp only[World.cell?]at this⊢;rw[hw];exact this)
 unfold src at h;split at h
 ·split at h
  ·rename_i hq;subst hq;injection h with h;subst h
   cases hv with
   |sl0 _ ad cap=>
    refine⟨[],by simp,fun w'=>by simp[Builtin.lenOf],fun w' hw=>?_,by simp,by simp⟩;cases ad<;>simp[Builtin.firstCells,loadCells,loadCellsFrom]
   |sl _ _ b p c nn cap hn hk hcap hF hc hr=>
    subst hn;exact⟨_,by simp,fun w'=>by simp[Builtin.lenOf],mem b p c _ cap hc,hk,fun i j hi hj=>by rw[Im _ _ _ (hidx i j hi hj)];exact hr i j hi hj⟩
  ·cases h
 ·split at h
  ·rename_i hq;subst hq;injection h with h;subst h
   cases hv with
   |fsl0 _ ad=>
    refine⟨[],by simp,fun w'=>by simp[Builtin.lenOf],fun w' hw=>?_,by simp,by simp⟩;cases ad<;>simp[Builtin.firstCells,loadCells,loadCellsFrom]
   |fsl _ _ b p c nn hn hk hF hc hr=>
    subst hn;exact⟨_,by simp,fun w'=>by simp[Builtin.lenOf],mem b p c _ _ hc,hk,fun i j hi hj=>by rw[Im _ _ _ (hidx i j hi hj)];exact hr i j hi hj⟩
  ·cases h
 ·injection h with h;subst h
  rw[hv.eq];exact⟨[],by simp,fun w'=>by simp[Builtin.lenOf],fun w' hw=>by simp[Builtin.firstCells],by simp,by simp⟩
 ·rename_i b p nn cap
  split at h
  ·rename_i q' es' frz cap' hb
   split at h
   ·rename_i hc
    obtain⟨rfl,hp,hle0⟩:=hc;injection h with h;subst h;rw[hv.eq];obtain⟨c,e,m,g1,g2,g3,g4,g5,g6,g7⟩:=hs.obj b _ hb;have hlen:((es'.drop (p/q')).take nn).length=nn:=by simp;omega
    have hp':p=p/q'*q':=by
     have:=Nat.div_add_mod p q';rw[hp,Nat.mul_comm]at this;omega
    have hle:(p/q'+nn)*q'≤cap'*q':=Nat.mul_le_mul_right _ (by omega);rw[Nat.add_mul,←hp']at hle;have hc:∀j,j<((es'.drop (p/q')).take nn).length*q'→w.cell? ⟨b,p+j,none⟩=some (c.getD (p+j) undef):=fun j hj=>by
     rw[hlen]at hj;have hlt:p+j<c.size:=by omega
     simp[World.cell?,g1,hlt]
    refine⟨_,by simp,fun w'=>by rw[hlen];simp[Builtin.lenOf],mem b p (fun j=>c.getD (p+j) undef) _ cap hc,fun e he=>g4 e (List.mem_of_mem_drop (List.mem_of_mem_take he)),fun i j hi hj=>?_⟩;rw[Im _ _ _ (hidx i j hi hj)];rw[hlen]at hi;have e1:((es'.drop (p/q')).take nn).getD i []=es'.getD (p/q'+i) []:=by
     simp only[List.getD_eq_getElem?_getD,List.getElem?_take,List.getElem?_drop];rw[if_pos hi]
    have e2:p+(i*q'+j)=(p/q'+i)*q'+j:=by rw[Nat.add_mul,←hp'];omega
    rw[e1,e2];exact g7 (p/q'+i) j (by omega) hj
   ·cases h
  ·cases h
 ·rename_i s
  split at h
  ·rename_i hb
   obtain⟨rfl,rfl⟩:=hb;injection h with h;subst h;rw[hv.eq];have hlen:(s.data.toList.map Ib).length=s.size:=by rw[List.length_map,Array.length_toList];rfl
   refine⟨s.data.toList.map fun b=>Value.int .u8 (b.toNat:Int),by rw[hlen,List.length_map,Array.length_toList,Nat.mul_one];rfl,fun w'=>by rw[hlen];simp[Builtin.lenOf],fun w' hw=>?_,fun e he=>?_,fun i j hi hj=>?_⟩
   ·rw[hlen]
    have hx:s.extract 0 s.size=s:=by simp
    simp only[Builtin.firstCells,hx,Sem.run_pure]
    congr 1
    apply Array.ext';simp
   ·obtain⟨q',_,rfl⟩:=List.mem_map.1 he
    exact⟨rfl,rfl⟩
   ·obtain rfl:j=0:=by omega
    rw[hlen]at hi;have hi':i<s.data.toList.length:=by rw[Array.length_toList];exact hi
    have e1:=Sw s.data.toList i hi';have e2:=Wn s.data.toList i hi';rw[Nat.mul_one,Nat.add_zero];rw[e1,e2];exact .v _
  ·cases h
 ·cases h
def F9(q eby:Nat)(ys:List (List AV))(σ:St)(s:AV)(k:AV→St→Prop):Prop:=
 match s with
 | .v (.slice none 0 0)=>(ys=[]→k (.v (.slice none 0 0)) σ)∧(ys≠[]→ys.length*eby≤140737488355328∧∀b cap,σ b=none→ys.length≤cap→k (.v (.slice (some ⟨b,0,none⟩) ys.length cap)) (σ.set b (.rows q ys false cap)))
 | .fsl q' es=>q'=q∧(ys=[]→k (.fsl q es) σ)∧(ys≠[]→(es.length+ys.length)*eby≤140737488355328∧∀b cap,σ b=none→es.length+ys.length≤cap→k (.v (.slice (some ⟨b,0,none⟩) (es.length+ys.length) cap)) (σ.set b (.rows q (es++ys) false cap)))
 | .v (.slice (some ⟨b,p,none⟩) n cap)=>
  (n=cap∧ys≠[]∧∃es,src q false σ (.v (.slice (some ⟨b,p,none⟩) n cap))=some es∧(n+ys.length)*eby≤140737488355328∧∀b' cap',σ b'=none→n+ys.length≤cap'→k (.v (.slice (some ⟨b',0,none⟩) (n+ys.length) cap')) (σ.set b' (.rows q (es++ys) false cap')))∨
  (p=0∧match σ b with
  |some (.rows q' es frz cap')=>q'=q∧n=es.length∧cap=cap'∧(es.length+ys.length)*eby≤140737488355328∧∀b' cap'',(σ.del b) b'=none→es.length+ys.length≤cap''→k (.v (.slice (some ⟨b',0,none⟩) (es.length+ys.length) cap'')) ((σ.del b).set b' (.rows q (es++ys) frz cap''))
  |_=>False)∨
  (p=0∧match σ b with
  |some (.rows q' es false cap')=>q'=q∧n≤es.length∧cap=cap'∧n+ys.length≤cap∧(n+ys.length)*eby≤140737488355328∧k (.v (.slice (some ⟨b,0,none⟩) (n+ys.length) cap)) (σ.set b (.rows q (es.take n++ys++es.drop (n+ys.length)) false cap))
  |_=>False)∨
  (ys≠[]∧∃pre es cap',σ b=some (.rows q (pre++es) false cap')∧p=pre.length*q∧n=es.length∧cap+pre.length=cap'∧(es.length+ys.length)*eby≤140737488355328∧
   ∀b' pre' cap'',(σ.del b) b'=none→pre'.length+es.length+ys.length≤cap''→k (.v (.slice (some ⟨b',pre'.length*q,none⟩) (es.length+ys.length) (cap''-pre'.length))) ((σ.del b).set b' (.rows q (pre'++es++ys) false cap'')))
 |_=>False
def aApp(i:Option TK)(σ:St)(s x:AV)(k:AV→St→Prop):Prop:=
 match i with
 |none=>False
 |some i=>match i.td with
  | .sl q eby ez byt=>0<q∧0<eby∧ez.all Value.oneCell'=true∧∃ys,src q byt σ x=some ys∧F9 q eby ys σ s k
  |_=>False
theorem Ix(z:Array Value)(m:Nat):(Builtin.zeroCells z m).size=m*z.size:=by simp[Builtin.zeroCells]
theorem Afi(d:TypeDesc)(h:∀q,d≠.int q):(match d with| .int _=>true|_=>false)=false:=by
 cases d<;>first|rfl|exact absurd rfl (h _)
theorem Do{t1 t2 ty e:TypeId}{d2:TypeDesc}{i:TypeInfo}{z:Value}(h1:P.underlying t1=some (.slice e))(h2:P.underlying t2=some d2)(hd2:∀q,d2≠.int q)(hi:P.info? e=some i)(hz:i.zero=some z)
  (base:Option Addr) (sLen sCap:Nat) (X:Value) (m:Nat) (olds news:List Value)
  (hlen:∀w',(Builtin.lenOf X).run P w'= .ok m w') (hnew:∀w':World,w'.heap=w.heap→(Builtin.firstCells i.size m X).run P w'= .ok news.toArray w')
  (hold:∀w':World,w'.heap=w.heap→(Builtin.firstCells i.size sLen (.slice base sLen sCap)).run P w'= .ok olds.toArray w')
  (hb:(sLen+m)*i.bytes≤140737488355328) (hby:0<i.bytes):
  (sLen+m≤sCap→base=none→news=[]→(Builtin.append_ #[t1,t2] ty #[.slice base sLen sCap,X]).run P w= .ok (.slice base (sLen+m) sCap) w)∧
  (∀b p,sLen+m≤sCap→base=some ⟨b,p,none⟩→w.there b (p+sLen*i.size) news.length→(∀v∈news,v.oneCell'=true)→(Builtin.append_ #[t1,t2] ty #[.slice base sLen sCap,X]).run P w= .ok (.slice base (sLen+m) sCap) (w.setCells b (p+sLen*i.size) news))∧
  (¬sLen+m≤sCap→(Builtin.append_ #[t1,t2] ty #[.slice base sLen sCap,X]).run P w= .ok (.slice (some ⟨w.heap.size,0,none⟩) (sLen+m) (grownCap w (sLen+m) sCap e)) (w.drew.alloc (.cells (olds.toArray++news.toArray++Builtin.zeroCells z.cells (grownCap w (sLen+m) sCap e-(sLen+m))) e))):=by
 have hzeros:=Afi d2 hd2;refine⟨fun hr hbn hn=>?_,fun b p hr hbs hth h1c=>?_,fun hr=>?_⟩
 ·subst hbn
  subst hn;simp[Builtin.append_,run_underlying h1,run_underlying h2,hzeros,A6 hi,hlen,hr,hnew w rfl]
 ·subst hbs
  have hst:=run_storeCells_cells (P:=P) b (p+sLen*i.size) news 0 w (fun j hj=>by simpa using(hth j hj).1) (fun j hj=>by simpa using(hth j hj).2) h1c;simp only[Nat.add_zero]at hst;simp[Builtin.append_,run_underlying h1,run_underlying h2,hzeros,A6 hi,hlen,hr,hnew w rfl,Addr.add_mid,hst]
 ·have hsum:sLen+m≤(sLen+m)*i.bytes:=Nat.le_mul_of_pos_right _ hby
  have h63:¬(9223372036854775807<(sLen:Int)+(m:Int)):=by omega
  have hcap:=nextslicecap_le (show sCap<sLen+m by omega);have h48:¬(281474976710656<Builtin.nextslicecap (sLen+m) sCap*i.bytes):=by
   have:=Nat.mul_le_mul_right i.bytes hcap;rw[Nat.mul_assoc]at this;omega
  have hti:(typeInfo e).run P w= .ok i w:=by simp[typeInfo,hi]
  have hti':∀w',(typeInfo e).run P w'= .ok i w':=fun w'=>by simp[typeInfo,hi]
  simp[Builtin.append_,run_underlying h1,run_underlying h2,hzeros,A6 hi,hlen,hr,h63,h48,hti',Question.forced,hold w.drew rfl,hnew w.drew rfl,Eo hi hz,newRow,grownCap]
  congr 2
  apply Array.ext';simp
theorem X6{t1 t2 ty e:TypeId}{ik ik':IntKind}{i:TypeInfo}{z:Value}(h1:P.underlying t1=some (.slice e))(h2:P.underlying t2=some (.int ik))(hi:P.info? e=some i)(hz:i.zero=some z)
  (base:Option Addr) (sLen sCap m:Nat) (olds:List Value)
  (hold:∀w':World,w'.heap=w.heap→(Builtin.firstCells i.size sLen (.slice base sLen sCap)).run P w'= .ok olds.toArray w')
  (hb:(sLen+m)*i.bytes≤140737488355328) (hby:0<i.bytes) (hsz:0<i.size) (hm:0<m) (hr:sCap<sLen+m):
  (Builtin.append_ #[t1,t2] ty #[.slice base sLen sCap,.int ik' (m:Int)]).run P w= .ok (.slice (some ⟨w.heap.size,0,none⟩) (sLen+m) (grownCap w (sLen+m) sCap e)) (w.drew.alloc (.cells (olds.toArray++Builtin.zeroCells z.cells m++Builtin.zeroCells z.cells (grownCap w (sLen+m) sCap e-(sLen+m))) e)):=by
 have hsum:sLen+m≤(sLen+m)*i.bytes:=Nat.le_mul_of_pos_right _ hby;have hwr:IntKind.i64.wrap (m:Int)=(m:Int):=by
  simp[IntKind.wrap,IntKind.signed,IntKind.bits];omega
 have h0:¬((m:Int)<0):=by omega
 have hmb:m*i.bytes≤140737488355328:=Nat.le_trans (Nat.mul_le_mul_right _ (by omega)) hb;have h48a:¬(281474976710656<(m:Int)*(i.bytes:Int)):=by
  rw[←Int.natCast_mul];omega
 have h63:¬(9223372036854775807<(sLen:Int)+(m:Int)):=by omega
 have hcap:=nextslicecap_le hr;have h48:¬(281474976710656<Builtin.nextslicecap (sLen+m) sCap*i.bytes):=by
  have:=Nat.mul_le_mul_right i.bytes hcap;rw[Nat.mul_assoc]at this;omega
 have hti':∀w',(typeInfo e).run P w'= .ok i w':=fun w'=>by simp[typeInfo,hi]
 have hnz:¬(m=0∨i.size=0):=by omega
 have hnr:¬sLen+m≤sCap:=by omega
 simp[Builtin.append_,run_underlying h1,run_underlying h2,A6 hi,asInt,asIntOf,hwr,h0,h48a,hnr,h63,h48,hti',Question.forced,hold w.drew rfl,hnz,Eo hi hz,newRow,grownCap];intro h;exact absurd (Nat.mul_eq_zero.1 h) hnz
theorem Rel.del(h:Rel F w σ)(b:Nat):Rel F w (σ.del b):=⟨fun x t hx=>by
 simp only[St.del]at hx;split at hx
 ·cases hx
 ·exact h.obj x t hx,h.lt⟩
theorem Ext.del(F:Bl)(w:World)(σ:St)(b:Nat):Ext F w σ F w (σ.del b):=
 ⟨.refl F w,rfl,rfl,rfl,Nat.le_refl _,fun x _ hx=>⟨rfl,by simp only[St.del];split<;>first|rfl|exact hx,rfl⟩⟩
theorem D1(h:Rel F w σ)(ob:Obj)(m:Nat)(t:Cj)(ht:B9 F w (Dr F w.heap.size m) (w.drew.alloc ob)→Holds (Dr F w.heap.size m) (w.drew.alloc ob) w.heap.size t):
  Rel (Dr F w.heap.size m) (w.drew.alloc ob) (σ.set w.heap.size t)∧Ext F w σ (Dr F w.heap.size m) (w.drew.alloc ob) (σ.set w.heap.size t):=by
 have hkp:B9 F w (Dr F w.heap.size m) (w.drew.alloc ob):=(B9.drew F w).trans (Qx h.drew ob m);refine⟨⟨fun b x hb=>?_,fun b hb=>?_⟩,⟨hkp,rfl,rfl,rfl,by simp,fun b hb hs=>⟨Below.heap_alloc w.drew ob b hb,?_,?_⟩⟩⟩
 ·simp only[St.set]at hb
  by_cases hbb:b=w.heap.size
  ·rw[if_pos hbb]at hb
   injection hb with hb;subst hb;subst hbb;exact ht hkp
  ·rw[if_neg hbb]at hb
   exact(h.obj b x hb).mono hkp (Below.heap_alloc w.drew ob b (h.lt_size hb)) (by unfold Dr;rw[if_neg hbb])
 ·simp at hb
  unfold Dr;rw[if_neg (by omega)];exact h.lt b (by omega)
 ·simp only[St.set]
  rw[if_neg (by omega)];exact hs
 ·unfold Dr
  rw[if_neg (by omega)]
theorem K9(es ys:List (List AV))(i:Nat):(es++ys).getD i []=if i<es.length then es.getD i []else ys.getD (i-es.length) []:=by
 simp only[List.getD_eq_getElem?_getD];by_cases h:i<es.length
 ·rw[if_pos h,List.getElem?_append_left h]
 ·rw[if_neg h,List.getElem?_append_right (by omega)]
theorem Ft(h:Rel F w σ){q:Nat}{es ys:List (List AV)}{olds news:List Value}{e:TypeId}{z:Value}{cap:Nat}(frz:Bool)(hz:z.cells.size=q)
  (ho:olds.length=es.length*q) (hn:news.length=ys.length*q) (hes:∀x∈es,x.length=q∧x.all AV.one=true) (hys:∀x∈ys,x.length=q∧x.all AV.one=true)
  (hro:∀i j,i<es.length→j<q→RV F w ((es.getD i []).getD j (.v undef)) (olds.getD (i*q+j) undef)) (hrn:∀i j,i<ys.length→j<q→RV F w ((ys.getD i []).getD j (.v undef)) (news.getD (i*q+j) undef))
  (hcap:es.length+ys.length≤cap) (hkp:B9 F w (Dr F w.heap.size (if frz then(es.length+ys.length)*q else 0)) (w.drew.alloc (.cells (olds.toArray++news.toArray++Builtin.zeroCells z.cells (cap-(es.length+ys.length))) e))):
  Holds (Dr F w.heap.size (if frz then(es.length+ys.length)*q else 0)) (w.drew.alloc (.cells (olds.toArray++news.toArray++Builtin.zeroCells z.cells (cap-(es.length+ys.length))) e)) w.heap.size (.rows q (es++ys) frz cap):=by
 have hsize:(olds.toArray++news.toArray++Builtin.zeroCells z.cells (cap-(es.length+ys.length))).size=cap*q:=by
  simp only[Array.size_append,List.size_toArray,Ix,hz,ho,hn,←Nat.add_mul]
  congr 1
  omega
 refine⟨_,e,(0,0),heap_alloc_new w.drew _,by rw[hsize];exact Nat.le_refl _,by rw[List.length_append];exact hcap,fun x hx=>?_,fun i _ hi=>by simp at hi,?_,fun i j hi hj=>?_⟩
 ·rcases List.mem_append.1 hx with h'|h'
  ·exact hes x h'
  ·exact hys x h'
 ·unfold Dr
  rw[if_pos rfl,List.length_append]
 ·rw[List.length_append]at hi
  rw[K9];by_cases hi':i<es.length
  ·rw[if_pos hi']
   have hlt:i*q+j<olds.length:=by
    rw[ho];have:(i+1)*q≤es.length*q:=Nat.mul_le_mul_right _ hi';rw[Nat.succ_mul]at this;omega
   have e1:(olds.toArray++news.toArray++Builtin.zeroCells z.cells (cap-(es.length+ys.length))).getD (i*q+j) undef=olds.getD (i*q+j) undef:=by
    simp only[Array.getD_eq_getD_getElem?,List.getD_eq_getElem?_getD];rw[Array.append_assoc,Array.getElem?_append_left (by simpa using hlt)];simp
   rw[e1];exact(hro i j hi' hj).mono hkp
  ·rw[if_neg hi']
   have hi2:i-es.length<ys.length:=by omega
   have hlt:(i-es.length)*q+j<news.length:=by
    rw[hn];have:(i-es.length+1)*q≤ys.length*q:=Nat.mul_le_mul_right _ hi2;rw[Nat.succ_mul]at this;omega
   have hidx:i*q+j=olds.length+((i-es.length)*q+j):=by
    rw[ho,←Nat.add_assoc,←Nat.add_mul,show es.length+(i-es.length)=i by omega]
   have e1:(olds.toArray++news.toArray++Builtin.zeroCells z.cells (cap-(es.length+ys.length))).getD (i*q+j) undef=news.getD ((i-es.length)*q+j) undef:=by
    simp only[Array.getD_eq_getD_getElem?,List.getD_eq_getElem?_getD];rw[hidx,Array.append_assoc,Array.getElem?_append_right (by simp),Array.getElem?_append_left (by simp;exact hlt)];simp
   rw[e1];exact(hrn _ j hi2 hj).mono hkp
theorem As0{d:TypeDesc}(h:∀q,Di P d≠.int q):∀q,d≠.int q:=fun q e=>by subst e;exact h q rfl
theorem Ahz{t1 t2:TypeId}{s x:Operand}(ho:o.op= .call {callee:=.builtin .append,args:=#[s,x],argTypes:=#[t1,t2]})(hsi:Bb n s=true)(hx:Bb n x=true)(hf:Bc F w n fr a)(hs:Rel F w σ)
  (ht2:∃j,tk P t2=some j∧∀q,j.td≠.int q) (h:aApp (tk P t1) σ (fr.ev s) (fr.ev x) k):Gk P o a F w σ k:=by
 obtain⟨j,hj,hjn⟩:=ht2;obtain⟨i2,d2,z2,b1,b2,b3,b4,b5,b6,b7,b8⟩:=Br hj;have hd2:∀q,d2≠.int q:=As0 (P:=P) (by rw[←b7];exact hjn);cases ht:tk P t1 with
 |none=>simp[ht,aApp]at h
 |some i=>
  obtain⟨inf,d,z,h1,h2,h3,h4,h5,h6,h7,h8⟩:=Br ht;simp only[ht,aApp]at h;cases htd:i.td with
  |sl q eby ez byt=>
   obtain⟨e,ie,ze,rfl,k1,rfl,rfl,k4,rfl,k6,k7⟩:=J7 (P:=P) (by rw[←h7,htd]);simp only[htd]at h;obtain⟨hq,hby,hez,ys,hsrc,h⟩:=h;obtain⟨news,n1,n2,n3,n4,n5⟩:=Jg (P:=P) hs hsrc (hf.ev x hx);have hgo:∀y w',(Builtin.append_ #[t1,t2] o.type #[a.eval s,a.eval x]).run P w= .ok y w'→(execOp a.eval o).run P w= .ok (.value y) w':=fun y w' hy=>by
    simp[execOp,ho,resolve,invoke,builtin,hy]
   have hone:∀v∈news,v.oneCell'=true:=fun v hv=>by
    obtain⟨j,hj,rfl⟩:=List.getElem_of_mem hv;have hlt:j<ys.length*ie.size:=by omega
    have hi:j/ie.size<ys.length:=(Nat.div_lt_iff_lt_mul hq).2 hlt;have hm:j % ie.size<ie.size:=Nat.mod_lt _ hq;have hr:=n5 _ _ hi hm;rw[show j/ie.size*ie.size+j % ie.size=j by rw[Nat.mul_comm];exact Nat.div_add_mod j _]at hr;have e1:news.getD j undef=news[j]:=by simp[List.getD_eq_getElem?_getD,hj]
    rw[e1]at hr;refine hr.one ?_;have e2:ys.getD (j/ie.size) []=ys[j/ie.size]:=by simp[List.getD_eq_getElem?_getD,hi]
    have:=n4 _ (List.getElem_mem hi);rw[e2];have e3:(ys[j/ie.size]).getD (j % ie.size) (.v undef)=(ys[j/ie.size])[j % ie.size]'(by omega):=by simp[List.getD_eq_getElem?_getD,this.1,hm]
    rw[e3];exact(List.all_eq_true.1 this.2) _ (List.getElem_mem _)
   have hv:=hf.ev s hsi;revert h hv;generalize fr.ev s=p;intro h hv;unfold F9 at h;split at h
   ·have ex:=hv.eq
    have hrun:=Do (P:=P) (w:=w) (ty:=o.type) h2 b2 hd2 k1 k4 none 0 0 (a.eval x) ys.length [] news n2 n3 (fun w' _=>by simp[Builtin.firstCells]);by_cases hys:ys=[]
    ·subst hys
     refine Cl hs (hgo _ _ ?_) (.v _) (h.1 rfl);rw[ex];have hnn:news=[]:=List.eq_nil_of_length_eq_zero (by simpa using n1);exact(hrun (by simp) hby).1 (by simp) rfl hnn
    ·obtain⟨hb,hk⟩:=h.2 hys
     have hpos:0<ys.length:=List.length_pos_iff.2 hys;have hr:=(hrun (by simpa using hb) hby).2.2 (by omega);simp only[Nat.zero_add]at hr;have hcap:=grownCap_ge w ys.length 0 e;have hg:=Ft (F:=F) (es:=[]) (olds:=[]) hs (e:=e) (z:=ze) (cap:=grownCap w ys.length 0 e) false k6 (by simp) n1 (by simp) n4 (by simp) n5 (by simpa using hcap);simp only[List.length_nil,Nat.zero_add,List.nil_append]at hg;obtain⟨r1,r2⟩:=D1 hs _ _ _ hg;exact Ba (hgo _ _ (by rw[ex];exact hr)) r2 r1 (.v _) (hk _ _ (Cc hs (Nat.le_refl _)) hcap)
   ·rename_i q' es
    obtain⟨rfl,h⟩:=h;by_cases hys:ys=[]
    ·subst hys
     have hnn:news=[]:=List.eq_nil_of_length_eq_zero (by simpa using n1);subst hnn;have hform:∃ad,a.eval s= .slice ad es.length es.length:=by
      cases hX:a.eval s with
      |slice ad len cap=>
       rw[hX]at hv;cases hv with
       |fsl0 _ _=>exact⟨_,rfl⟩
       |fsl _ _ b p c _ hn hk hF hc hr=>subst hn;exact⟨_,rfl⟩
      |_=>rw[hX]at hv;cases hv
     obtain⟨ad,ex⟩:=hform;refine Cl hs (hgo (.slice ad es.length es.length) _ ?_) (by rw[←ex];exact hv) (h.1 rfl);rw[ex];have hzeros:=Afi d2 hd2;have hn0:=n3 w rfl;simp only[List.length_nil]at n2 hn0;cases ad<;>simp[Builtin.append_,run_underlying h2,run_underlying b2,hzeros,A6 k1,n2,hn0,storeCells]
    ·obtain⟨hb,hk⟩:=h.2 hys
     have hpos:0<ys.length:=List.length_pos_iff.2 hys;have hvs:RV F w (.sl ie.size es) (a.eval s):=by
      generalize a.eval s=X at hv;cases hv with
      |fsl0 _ a=>exact .sl0 _ _ _
      |fsl _ _ b p c n hn hk hF hc hr=>exact .sl _ _ b p c n n hn hk (Nat.le_refl _) hF hc hr
     obtain⟨olds,m1,m2,m3,m4,m5⟩:=Jg (P:=P) hs (q:=ie.size) (ys:=es) (byt:=byt) (x:=.sl ie.size es) (by simp[src]) hvs;have hform:∃ad,a.eval s= .slice ad es.length es.length:=by
      cases hX:a.eval s with
      |slice ad len cap=>
       rw[hX]at hv;cases hv with
       |fsl0 _ _=>exact⟨_,rfl⟩
       |fsl _ _ b p c _ hn hk hF hc hr=>subst hn;exact⟨_,rfl⟩
      |_=>rw[hX]at hv;cases hv
     obtain⟨ad,ex⟩:=hform;rw[ex]at m3;have hr:=(Do (P:=P) (w:=w) (ty:=o.type) h2 b2 hd2 k1 k4 ad es.length es.length (a.eval x) ys.length olds news n2 n3 m3 hb hby).2.2 (by omega);have hcap:=grownCap_ge w (es.length+ys.length) es.length e;have hg:=Ft (F:=F) hs (e:=e) (z:=ze) (cap:=grownCap w (es.length+ys.length) es.length e) false k6 m1 n1 m4 n4 m5 n5 hcap;obtain⟨r1,r2⟩:=D1 hs _ _ _ hg;exact Ba (hgo _ _ (by rw[ex];exact hr)) r2 r1 (.v _) (hk _ _ (Cc hs (Nat.le_refl _)) hcap)
   ·rename_i b p len cap
    rcases h with⟨rfl,hys,es,hes,hbd,hk⟩|⟨rfl,h⟩|⟨rfl,h⟩|⟨hys,pre,es,cap',hb,rfl,rfl,hcap',hbd,hk⟩
    ·have hlen:es.length=len:=by
      simp only[src]at hes;split at hes
      ·split at hes
       ·rename_i hc
        injection hes with hes;subst hes;simp;omega
       ·cases hes
      ·cases hes
     have hpos:0<ys.length:=List.length_pos_iff.2 hys;have ex:=hv.eq;obtain⟨olds,m1,m2,m3,m4,m5⟩:=Jg (P:=P) hs hes (.v _);rw[hlen]at m3;have hr:=(Do (P:=P) (w:=w) (ty:=o.type) h2 b2 hd2 k1 k4 (some ⟨b,p,none⟩) len len (a.eval x) ys.length olds news n2 n3 m3 hbd hby).2.2 (by omega);have hcap:=grownCap_ge w (len+ys.length) len e;rw[←hlen]at hcap;have hg:=Ft (F:=F) hs (e:=e) (z:=ze) (cap:=grownCap w (es.length+ys.length) es.length e) false k6 m1 n1 m4 n4 m5 n5 hcap;obtain⟨r1,r2⟩:=D1 hs _ _ _ hg;rw[hlen]at hcap r1 r2;exact Ba (hgo _ _ (by rw[ex];exact hr)) r2 r1 (.v _) (hk _ _ (Cc hs (Nat.le_refl _)) hcap)
    cases hb:σ b with
    |none=>simp[hb]at h
    |some ob=>
     cases ob with
     |cells _=>simp[hb]at h
     |map _=>simp[hb]at h
     |loop _ _ _ _ _ _ _=>simp[hb]at h
     |rows q' es frz cap'=>
      simp only[hb]at h;obtain⟨rfl,rfl,rfl,hbd,hk⟩:=h;have ex:=hv.eq;obtain⟨olds,m1,m2,m3,m4,m5⟩:=Jg (P:=P) hs (q:=ie.size) (ys:=es) (byt:=byt) (x:=.v (.slice (some ⟨b,0,none⟩) es.length cap)) (by simp[src,hb]) (.v _);have hgen:=Do (P:=P) (w:=w) (ty:=o.type) h2 b2 hd2 k1 k4 (some ⟨b,0,none⟩) es.length cap (a.eval x) ys.length olds news n2 n3 m3 hbd hby;have hdel:=hs.del b;have hed:=Ext.del F w σ b;by_cases hroom:es.length+ys.length≤cap
      ·obtain⟨c,e',m,g1,g2,g3,g4,g5,g6,g7⟩:=hs.obj b _ hb
       have hfit:es.length*ie.size+news.length≤c.size:=by
        rw[n1,←Nat.add_mul];exact Nat.le_trans (Nat.mul_le_mul_right _ hroom) g2
       have hth:w.there b (0+es.length*ie.size) news.length:=fun j hj=>by
        have hlt:es.length*ie.size+j<c.size:=by omega
        rw[Nat.zero_add];refine⟨by simp[World.cell?,g1,hlt],?_⟩;have:=g5 (es.length*ie.size+j) (.inl hlt);simp only[World.frozen?,g1];simpa using this
       have hr:=hgen.2.1 b 0 hroom rfl hth hone;rw[Nat.zero_add]at hr;obtain⟨c',q1,q2,q3⟩:=Cw b e' m news (es.length*ie.size) w c g1;have hFb:F b≤es.length*ie.size:=by rw[g6];split<;>omega
       have hkp:B9 F w (Dr F b (if frz then(es.length+ys.length)*ie.size else 0)) (w.setCells b (es.length*ie.size) news):=⟨fun x=>by
         unfold Dr;split
         ·rename_i hx;subst hx
          rw[g6];cases frz with
          |true=>exact Nat.mul_le_mul_right _ (by omega)
          |false=>exact Nat.le_refl _
         ·exact Nat.le_refl _,fun x off hoff=>by
         refine World.cell?_setCells_out b news _ w _ (fun hxb _=>?_);simp only at hxb;subst hxb;left;show off<es.length*ie.size;omega⟩
       obtain⟨z1,z2,z3⟩:=Jf b news (es.length*ie.size) w;refine Ba (σ':=(σ.del b).set b (.rows ie.size (es++ys) frz cap)) (F':=Dr F b (if frz then(es.length+ys.length)*ie.size else 0)) (hgo _ _ (by rw[ex];exact hr)) ⟨hkp,z1,z2,z3,by rw[E9];exact Nat.le_refl _,fun x hx hn=>?_⟩ ⟨fun x t hx=>?_,fun x hx=>?_⟩ (.v _) (hk b cap (by simp[St.del]) hroom)
       ·have hne:x≠b:=fun e=>by subst e;simp[hb]at hn
        exact⟨Cd b news _ w x hne,by simp[St.set,St.del,hne,hn],by simp[Dr,hne]⟩
       ·simp only[St.set]at hx
        by_cases hxb:x=b
        ·rw[if_pos hxb]at hx
         injection hx with hx;subst hx;subst hxb;refine⟨c',e',m,q1,by rw[q2];exact g2,by rw[List.length_append];exact hroom,fun x hx=>?_,by rw[q2];exact g5,by unfold Dr;rw[if_pos rfl,List.length_append],fun i j hi hj=>?_⟩
         ·rcases List.mem_append.1 hx with h'|h'
          ·exact g4 x h'
          ·exact n4 x h'
         ·rw[List.length_append]at hi
          rw[K9];by_cases hi':i<es.length
          ·have:i*ie.size+j<es.length*ie.size:=by
            have:(i+1)*ie.size≤es.length*ie.size:=Nat.mul_le_mul_right _ hi';rw[Nat.succ_mul]at this;omega
           have e1:c'.getD (i*ie.size+j) undef=c.getD (i*ie.size+j) undef:=by rw[q3,if_neg (by omega)]
           rw[if_pos hi',e1];exact(g7 i j hi' hj).mono hkp
          ·have hi2:i-es.length<ys.length:=by omega
           have hlt:(i-es.length)*ie.size+j<news.length:=by
            rw[n1];have:(i-es.length+1)*ie.size≤ys.length*ie.size:=Nat.mul_le_mul_right _ hi2;rw[Nat.succ_mul]at this;omega
           have hidx:i*ie.size+j=es.length*ie.size+((i-es.length)*ie.size+j):=by
            rw[←Nat.add_assoc,←Nat.add_mul,show es.length+(i-es.length)=i by omega]
           have e1:c'.getD (i*ie.size+j) undef=news.getD ((i-es.length)*ie.size+j) undef:=by
            rw[q3,if_pos (by omega),show i*ie.size+j-es.length*ie.size=(i-es.length)*ie.size+j by omega]
           rw[if_neg hi',e1];exact(n5 _ j hi2 hj).mono hkp
        ·rw[if_neg hxb]at hx
         simp only[St.del,hxb,if_false]at hx;exact(hs.obj x t hx).mono hkp (Cd b news _ w x hxb) (by simp[Dr,hxb])
       ·rw[E9]at hx
        have:=hs.lt_size hb;unfold Dr;rw[if_neg (by omega)];exact hs.lt x hx
      ·have hr:=hgen.2.2 hroom
       have hcap:=grownCap_ge w (es.length+ys.length) cap e;have hg:=Ft (F:=F) hdel (e:=e) (z:=ze) (cap:=grownCap w (es.length+ys.length) cap e) frz k6 m1 n1 m4 n4 m5 n5 hcap;obtain⟨r1,r2⟩:=D1 hdel _ _ _ hg;exact Ba (hgo _ _ (by rw[ex];exact hr)) (hed.trans r2) r1 (.v _) (hk _ _ (Cc hdel (Nat.le_refl _)) hcap)
    ·cases hb:σ b with
     |none=>simp[hb]at h
     |some ob=>
      cases ob with
      |cells _=>simp[hb]at h
      |map _=>simp[hb]at h
      |loop _ _ _ _ _ _ _=>simp[hb]at h
      |rows q' es frz cap'=>
       cases frz with
       |true=>simp[hb]at h
       |false=>
        simp only[hb]at h;obtain⟨rfl,hle,rfl,hroom,hbd,hk⟩:=h;have ex:=hv.eq;obtain⟨olds,m1,m2,m3,m4,m5⟩:=Jg (P:=P) hs (q:=ie.size) (ys:=es.take len) (byt:=byt) (x:=.v (.slice (some ⟨b,0,none⟩) len cap)) (by simp[src,hb,hle]) (.v _);rw[List.length_take,Nat.min_eq_left hle]at m3;have hgen:=Do (P:=P) (w:=w) (ty:=o.type) h2 b2 hd2 k1 k4 (some ⟨b,0,none⟩) len cap (a.eval x) ys.length olds news n2 n3 m3 hbd hby;obtain⟨c,e',m,g1,g2,g3,g4,g5,g6,g7⟩:=hs.obj b _ hb;have hfit:len*ie.size+news.length≤c.size:=by
         rw[n1,←Nat.add_mul];exact Nat.le_trans (Nat.mul_le_mul_right _ hroom) g2
        have hth:w.there b (0+len*ie.size) news.length:=fun j hj=>by
         have hlt:len*ie.size+j<c.size:=by omega
         rw[Nat.zero_add];refine⟨by simp[World.cell?,g1,hlt],?_⟩;have:=g5 (len*ie.size+j) (.inl hlt);simp only[World.frozen?,g1];simpa using this
        have hr:=hgen.2.1 b 0 hroom rfl hth hone;rw[Nat.zero_add]at hr;obtain⟨c',q1,q2,q3⟩:=Cw b e' m news (len*ie.size) w c g1;have g6':F b=0:=g6;obtain⟨r1,r2⟩:=H7 hs hb g6' (len*ie.size) news (.rows ie.size (es.take len++ys++es.drop (len+ys.length)) false cap) fun hkp=>by
         have hlen:(es.take len++ys++es.drop (len+ys.length)).length=len+ys.length+(es.length-(len+ys.length)):=by
          simp[Nat.min_eq_left hle];omega
         refine⟨c',e',m,q1,by rw[q2];exact g2,by rw[hlen];omega,fun x hx=>?_,by rw[q2];exact g5,g6',fun i j hi hj=>?_⟩
         ·rcases List.mem_append.1 hx with h'|h'
          ·rcases List.mem_append.1 h' with h'|h'
           ·exact g4 x (List.mem_of_mem_take h')
           ·exact n4 x h'
          ·exact g4 x (List.mem_of_mem_drop h')
         ·rw[hlen]at hi
          by_cases h1:i<len
          ·have e1:(es.take len++ys++es.drop (len+ys.length)).getD i []=es.getD i []:=by
            rw[List.append_assoc];simp only[List.getD_eq_getElem?_getD];rw[List.getElem?_append_left (by simp;omega),List.getElem?_take,if_pos h1]
           have hlt:i*ie.size+j<len*ie.size:=by
            have:(i+1)*ie.size≤len*ie.size:=Nat.mul_le_mul_right _ h1;rw[Nat.succ_mul]at this;omega
           have e2:c'.getD (i*ie.size+j) undef=c.getD (i*ie.size+j) undef:=by rw[q3,if_neg (by omega)]
           rw[e1,e2];exact(g7 i j (by omega) hj).mono hkp
          ·by_cases h2:i<len+ys.length
           ·have e1:(es.take len++ys++es.drop (len+ys.length)).getD i []=ys.getD (i-len) []:=by
             rw[List.append_assoc];simp only[List.getD_eq_getElem?_getD];rw[List.getElem?_append_right (by simp;omega),List.getElem?_append_left (by simp;omega)];simp[Nat.min_eq_left hle]
            have hlt:(i-len)*ie.size+j<news.length:=by
             rw[n1];have:(i-len+1)*ie.size≤ys.length*ie.size:=Nat.mul_le_mul_right _ (by omega);rw[Nat.succ_mul]at this;omega
            have hidx:i*ie.size+j=len*ie.size+((i-len)*ie.size+j):=by
             rw[←Nat.add_assoc,←Nat.add_mul,show len+(i-len)=i by omega]
            have e2:c'.getD (i*ie.size+j) undef=news.getD ((i-len)*ie.size+j) undef:=by
             rw[q3,if_pos (by omega),show i*ie.size+j-len*ie.size=(i-len)*ie.size+j by omega]
            rw[e1,e2];exact(n5 _ j (by omega) hj).mono hkp
           ·have e1:(es.take len++ys++es.drop (len+ys.length)).getD i []=es.getD i []:=by
             simp only[List.getD_eq_getElem?_getD];rw[List.getElem?_append_right (by simp;omega),List.getElem?_drop]
             congr 2
             simp[Nat.min_eq_left hle];omega
            have hge:len*ie.size+news.length≤i*ie.size:=by
             rw[n1,←Nat.add_mul];exact Nat.mul_le_mul_right _ (by omega)
            have e2:c'.getD (i*ie.size+j) undef=c.getD (i*ie.size+j) undef:=by rw[q3,if_neg (by omega)]
            rw[e1,e2];exact(g7 i j (by omega) hj).mono hkp
        exact Ba (hgo _ _ (by rw[ex];exact hr)) r2 r1 (.v _) hk
    ·have ex:=hv.eq
     have hdiv:pre.length*ie.size/ie.size=pre.length:=Nat.mul_div_cancel _ hq;obtain⟨olds,m1,m2,m3,m4,m5⟩:=Jg (P:=P) hs (q:=ie.size) (ys:=es) (byt:=byt) (x:=.v (.slice (some ⟨b,pre.length*ie.size,none⟩) es.length cap)) (by simp[src,hb,hdiv]) (.v _);have hgen:=Do (P:=P) (w:=w) (ty:=o.type) h2 b2 hd2 k1 k4 (some ⟨b,pre.length*ie.size,none⟩) es.length cap (a.eval x) ys.length olds news n2 n3 m3 hbd hby;by_cases hroom:es.length+ys.length≤cap
     ·obtain⟨c,e',m,g1,g2,g3,g4,g5,g6,g7⟩:=hs.obj b _ hb
      have hoff:pre.length*ie.size+es.length*ie.size=(pre++es).length*ie.size:=by rw[List.length_append,Nat.add_mul]
      have hfit:(pre++es).length*ie.size+news.length≤c.size:=by
       rw[n1,←Nat.add_mul];exact Nat.le_trans (Nat.mul_le_mul_right _ (by rw[List.length_append];omega)) g2
      have hth:w.there b (pre.length*ie.size+es.length*ie.size) news.length:=fun j hj=>by
       rw[hoff];have hlt:(pre++es).length*ie.size+j<c.size:=by omega
       have hlt':=hlt;rw[List.length_append]at hlt';refine⟨by simp only[World.cell?,g1];simp[hlt'],?_⟩;have:=g5 ((pre++es).length*ie.size+j) (.inl hlt);simp only[World.frozen?,g1];simpa using this
      have hr:=hgen.2.1 b _ hroom rfl hth hone;rw[hoff]at hr;obtain⟨c',q1,q2,q3⟩:=Cw b e' m news ((pre++es).length*ie.size) w c g1;have g6':F b=0:=g6;obtain⟨r1,r2⟩:=H7 hs hb g6' ((pre++es).length*ie.size) news (.rows ie.size (pre++es++ys) false cap') fun hkp=>by
       generalize hE:pre++es=E at*;have hEl:E.length=pre.length+es.length:=by rw[←hE,List.length_append]
       refine⟨c',e',m,q1,by rw[q2];exact g2,by rw[List.length_append];omega,fun x hx=>?_,by rw[q2];exact g5,g6',fun i j hi hj=>?_⟩
       ·rcases List.mem_append.1 hx with h'|h'
        ·exact g4 x h'
        ·exact n4 x h'
       ·rw[List.length_append]at hi
        rw[K9];by_cases hi':i<E.length
        ·have:i*ie.size+j<E.length*ie.size:=by
          have:(i+1)*ie.size≤E.length*ie.size:=Nat.mul_le_mul_right _ hi';rw[Nat.succ_mul]at this;omega
         have e1:c'.getD (i*ie.size+j) undef=c.getD (i*ie.size+j) undef:=by rw[q3,if_neg (by omega)]
         rw[if_pos hi',e1];exact(g7 i j hi' hj).mono hkp
        ·have hi2:i-E.length<ys.length:=by omega
         have hlt:(i-E.length)*ie.size+j<news.length:=by
          rw[n1];have:(i-E.length+1)*ie.size≤ys.length*ie.size:=Nat.mul_le_mul_right _ hi2;rw[Nat.succ_mul]at this;omega
         have hidx:i*ie.size+j=E.length*ie.size+((i-E.length)*ie.size+j):=by
          rw[←Nat.add_assoc,←Nat.add_mul,show E.length+(i-E.length)=i by omega]
         have e1:c'.getD (i*ie.size+j) undef=news.getD ((i-E.length)*ie.size+j) undef:=by
          rw[q3,if_pos (by omega),show i*ie.size+j-E.length*ie.size=(i-E.length)*ie.size+j by omega]
         rw[if_neg hi',e1];exact(n5 _ j hi2 hj).mono hkp
      have hk':=hk b pre cap' (by simp[St.del]) (by omega);have e2:cap'-pre.length=cap:=by omega
      have e3:(σ.del b).set b (.rows ie.size (pre++es++ys) false cap')=σ.set b (.rows ie.size (pre++es++ys) false cap'):=by
       funext x;simp only[St.set,St.del];split<;>rfl
      rw[e2,e3]at hk';exact Ba (hgo _ _ (by rw[ex];exact hr)) r2 r1 (.v _) hk'
     ·have hr:=hgen.2.2 hroom
      have hcap:=grownCap_ge w (es.length+ys.length) cap e;have hdel:=hs.del b;have hed:=Ext.del F w σ b;have hg:=Ft (F:=F) hdel (e:=e) (z:=ze) (cap:=grownCap w (es.length+ys.length) cap e) false k6 m1 n1 m4 n4 m5 n5 hcap;obtain⟨r1,r2⟩:=D1 hdel _ _ _ hg;have hk':=hk _ [] _ (Cc hdel (Nat.le_refl _)) (by simpa using hcap);simp only[List.length_nil,Nat.zero_mul,Nat.sub_zero,List.nil_append]at hk';exact Ba (hgo _ _ (by rw[ex];exact hr)) (hed.trans r2) r1 (.v _) hk'
   ·exact h.elim
  |_=>simp[htd]at h
def aAppN(i j:Option TK)(σ:St)(s x:AV)(k:AV→St→Prop):Prop:=
 match i,j,x,s with
 |some ⟨_,_,_,.sl q eby ez _⟩,some ⟨_,_,_,.int _⟩,.v (.int _ m),.v (.slice (some ⟨b,0,none⟩) n cap)=>
  0<q∧0<eby∧ez.all Value.oneCell'=true∧0<m∧(cap:Int)<n+m∧(n+m.toNat)*eby≤140737488355328∧∃es frz cap',σ b=some (.rows q es frz cap')∧n≤es.length∧
   ∀b' c',σ b'=none→n+m.toNat≤c'→k (.v (.slice (some ⟨b',0,none⟩) (n+m.toNat) c')) (σ.set b' (.rows q (es.take n++List.replicate m.toNat (ez.map .v)) false c'))
 |_,_,_,_=>False
theorem Ad1{z:Array Value}{q m i j:Nat}(hz:z.size=q)(hi:i<m)(hj:j<q):(Builtin.zeroCells z m).toList.getD (i*q+j) undef=z[j]'(by omega):=by
 have hlt:i*q+j<m*z.size:=by
  have:(i+1)*q≤m*q:=Nat.mul_le_mul_right _ hi;rw[Nat.succ_mul]at this;rw[hz];omega
 have hm:(i*q+j)% z.size=j:=by
  rw[hz,Nat.add_comm,Nat.add_mul_mod_self_right,Nat.mod_eq_of_lt hj]
 have hjz:j<z.size:=by omega
 simp[Builtin.zeroCells,List.getD_eq_getElem?_getD,hlt,hm,hjz]
theorem Aif{z:Array Value}{q m i j:Nat}(hz:z.size=q)(hi:i<m)(hj:j<q):((List.replicate m (z.toList.map AV.v)).getD i []).getD j (.v undef)= .v (z[j]'(by omega)):=by
 have e0:(List.replicate m (z.toList.map AV.v)).getD i []=z.toList.map AV.v:=by
  rw[List.getD_eq_getElem?_getD,List.getElem?_replicate,if_pos hi];rfl
 have hjz:j<z.size:=by omega
 rw[e0];simp[List.getD_eq_getElem?_getD,hjz]
theorem Adl{t1 t2:TypeId}{s x:Operand}(ho:o.op= .call {callee:=.builtin .append,args:=#[s,x],argTypes:=#[t1,t2]})(hsi:Bb n s=true)(hx:Bb n x=true)(hf:Bc F w n fr a)(hs:Rel F w σ)
  (h:aAppN (tk P t1) (tk P t2) σ (fr.ev s) (fr.ev x) k):Gk P o a F w σ k:=by
 unfold aAppN at h;split at h
 ·rename_i ag sz zr q eby ez byt ag2 sz2 zr2 ik ik2 m b len cap ht1 ht2 hxv hsv
  obtain⟨hq,hby,hez,hm,hr,hb,es,frz,cap',hbr,hle,hk⟩:=h;obtain⟨inf,d,z,h1,h2,h3,h4,h5,h6,h7,h8⟩:=Br ht1;obtain⟨i2,d2,z2,b1,b2,b3,b4,b5,b6,b7,b8⟩:=Br ht2;obtain⟨e,ie,ze,rfl,k1,rfl,rfl,k4,rfl,k6,k7⟩:=J7 (P:=P) (d:=d) h7.symm;obtain rfl:=Ym (P:=P) (d:=d2) b7.symm;have hv:=hf.ev s hsi;rw[hsv]at hv;have hvx:=hf.ev x hx;rw[hxv]at hvx;obtain⟨mm,rfl⟩:∃mm:Nat,m=mm:=⟨m.toNat,by omega⟩;rw[Int.toNat_natCast]at hb hk;obtain⟨olds,m1,m2,m3,m4,m5⟩:=Jg (P:=P) hs (q:=ie.size) (ys:=es.take len) (byt:=byt) (x:=.v (.slice (some ⟨b,0,none⟩) len cap)) (by simp[src,hbr,hle]) (.v _);rw[List.length_take,Nat.min_eq_left hle]at m3;have hrun:=X6 (P:=P) (w:=w) (ty:=o.type) (ik':=ik2) h2 b2 k1 k4 (some ⟨b,0,none⟩) len cap mm olds m3 hb hby hq (by omega) (by omega);have hcap:=grownCap_ge w (len+mm) cap e;have hz1:ze.cells.toList.length=ie.size:=by simpa using k6
  have hlen:(es.take len).length=len:=by rw[List.length_take,Nat.min_eq_left hle]
  have hg:=Ft (F:=F) (ys:=List.replicate mm (ze.cells.toList.map .v)) (news:=(Builtin.zeroCells ze.cells mm).toList) hs (e:=e) (z:=ze) (cap:=grownCap w (len+mm) cap e) false k6 m1 (by simp[Ix,k6]) m4 (fun e he=>by
   obtain⟨_,rfl⟩:=List.mem_replicate.1 he;exact⟨by simp[k6],by rw[List.all_map];exact hez⟩) m5 (fun i j hi hj=>by
   rw[List.length_replicate]at hi;rw[Aif k6 hi hj,Ad1 k6 hi hj];exact .v _) (by rw[hlen,List.length_replicate];exact hcap)
  rw[hlen,List.length_replicate]at hg;obtain⟨r1,r2⟩:=D1 hs _ _ _ hg;refine Ba ?_ r2 r1 (.v _) (hk _ _ (Cc hs (Nat.le_refl _)) hcap);have:(execOp a.eval o).run P w=((Builtin.append_ #[t1,t2] o.type #[a.eval s,a.eval x]).run P w).andThen fun v w'=>.ok (.value v) w':=by
   simp[execOp,ho,resolve,invoke,builtin]
  rw[this,hv.eq,hvx.eq,hrun];simp
 ·exact h.elim
end
open Go Go.RowKit Go.MapKept
def Lo:TD→Value→Bool
 | .int k,.int k' _=>decide (k=k')
 | .str,.string _=>true
 | .bool,.bool _=>true
 |_,_=>false
def Na:Value→Value→Bool
 | .int _ a,.int _ b=>decide (a=b)
 | .string a,.string b=>decide (a=b)
 | .bool a,.bool b=>a==b
 |_,_=>false
def Rj(x:Value):List (Value×AV)→Option AV
 | []=>none
 |(y,u)::l=>if Na x y then some u else Rj x l
def mPut(x:Value)(v:AV):List (Value×AV)→List (Value×AV)
 | []=>[(x,v)]
 |(y,u)::l=>if Na x y then(x,v)::l else(y,u)::mPut x v l
def mDel(x:Value):List (Value×AV)→List (Value×AV)
 | []=>[]
 |(y,u)::l=>if Na x y then l else(y,u)::mDel x l
section
variable{P:Program}{o:Oper}{n:Nat}{fr:Fr}{a:Act}{F:Bl}{w:World}{σ:St}{k:AV→St→Prop}
theorem Adu{d:TypeDesc}{ke e:TypeId}(h:Di P d= .map ke e):d= .map ke e:=by
 cases d with
 |array n e=>simp only[Di]at h;(repeat' split at h)<;>cases h
 |struct e=>simp only[Di]at h;(repeat' split at h)<;>cases h
 |slice e=>simp only[Di]at h;(repeat' split at h)<;>cases h
 |map a b=>simp[Di]at h;rw[h.1,h.2]
 |_=>simp[Di]at h
theorem Apx{d:TypeDesc}(h:Di P d= .bool):d= .bool:=by
 cases d with
 |array n e=>simp only[Di]at h;(repeat' split at h)<;>cases h
 |struct e=>simp only[Di]at h;(repeat' split at h)<;>cases h
 |slice e=>simp only[Di]at h;(repeat' split at h)<;>cases h
 |bool=>rfl
 |_=>simp[Di]at h
theorem Ii{d:TypeDesc}{x:Value}(h:Lo (Di P d) x=true):IsKey d x:=by
 generalize hd:Di P d=td at h;cases td<;>cases x<;>simp only[Lo]at h<;>try (cases h;done)
 ·rename_i k k' _
  have:=Ym (P:=P) hd;subst this;simpa[IsKey,eq_comm]using h
 ·have:=Apx (P:=P) hd
  subst this;simp[IsKey]
 ·have:=Ly (P:=P) hd
  subst this;simp[IsKey]
theorem Adk{d:TypeDesc}{x y:Value}(hx:IsKey d x)(hy:IsKey d y):Instr.sameNow d x y=some (Na x y):=by
 obtain⟨r,h1,h2⟩:=sameNow_of_keys hx hy;rw[h1]
 congr 1
 have:Na x y=true↔x=y:=by
  cases d<;>cases x<;>cases y<;>simp_all [IsKey,Na]
 cases r with
 |true=>exact(this.2 (h2.1 rfl)).symm
 |false=>
  cases hq:Na x y with
  |false=>rfl
  |true=>exact absurd (h2.2 (this.1 hq)) (by simp)
theorem Aka{d:TypeDesc}{x y:Value}(hx:IsKey d x)(hy:IsKey d y)(h:Na x y=true):x=y:=by
 cases d<;>cases x<;>cases y<;>simp_all [IsKey,Na]
theorem R5{d:TypeDesc}{x:Value}(hx:IsKey d x):∀(kv:List (Value×AV)) (es:List MapEntry) (i:Nat),KVs F w kv es→(∀p∈kv,IsKey d p.1)→
  (Rj x kv=none∧Instr.findNow d x es i=some none∧(∀F' w',KVs F' w' kv es→KVs F' w' (mDel x kv) es)∧∀F' w' v e,KVs F' w' kv es→e.key=x→RV F' w' v e.val→KVs F' w' (mPut x v kv) (es++[e]))∨
  (∃j u e,Rj x kv=some u∧Instr.findNow d x es i=some (some (i+j,e.val))∧RV F w u e.val∧es[j]? =some e∧e.key=x∧(∀F' w',KVs F' w' kv es→KVs F' w' (mDel x kv) (es.eraseIdx j))∧
   ∀F' w' v val,KVs F' w' kv es→RV F' w' v val→KVs F' w' (mPut x v kv) (es.modify j fun e=>{e with key:=x,val:=val}))
 | [],[],i,h,hk=>.inl ⟨rfl,rfl,fun _ _ h=>h,fun F' w' v e _ he hv=>⟨he,hv,trivial⟩⟩
 |(y,u)::l,e::es,i,h,hk=>by
  have hy:=hk (y,u) (by simp);have hs:=Adk hx hy;rw[←h.1]at hs;simp only[h.1]at hs;cases hq:Na x y with
  |true=>
   refine .inr ⟨0,u,e,by simp[Rj,hq],by simp[Instr.findNow,h.1,hs,hq],h.2.1,rfl,by rw[h.1];exact(Aka hx hy hq).symm,fun F' w' h'=>?_,fun F' w' v val h' hv=>?_⟩
   ·simp only[mDel,hq,if_true,List.eraseIdx_cons_zero]
    exact h'.2.2
   ·simp only[mPut,hq,if_true,List.modify_zero_cons]
    exact⟨rfl,hv,h'.2.2⟩
  |false=>
   rcases R5 hx l es (i+1) h.2.2 (fun p hp=>hk p (by simp[hp]))with⟨h1,h2,h3,h4⟩|⟨j,u',e',h1,h2,h3,h4,h5,h6,h7⟩
   ·refine .inl ⟨by simp[Rj,hq,h1],by simp[Instr.findNow,h.1,hs,hq,h2],fun F' w' h'=>?_,fun F' w' v e' h' he hv=>?_⟩
    ·simp only[mDel,hq]
     exact⟨h'.1,h'.2.1,h3 _ _ h'.2.2⟩
    ·simp only[mPut,hq]
     exact⟨h'.1,h'.2.1,h4 _ _ _ _ h'.2.2 he hv⟩
   ·refine .inr ⟨j+1,u',e',by simp[Rj,hq,h1],by simp[Instr.findNow,h.1,hs,hq,h2];omega,h3,by simpa using h4,h5,fun F' w' h'=>?_,fun F' w' v val h' hv=>?_⟩
    ·simp only[mDel,hq,List.eraseIdx_cons_succ]
     exact⟨h'.1,h'.2.1,h6 _ _ h'.2.2⟩
    ·simp only[mPut,hq,List.modify_succ_cons]
     exact⟨h'.1,h'.2.1,h7 _ _ _ _ h'.2.2 hv⟩
 | [],_::_,_,h,_=>h.elim
 |_::_,[],_,h,_=>h.elim
theorem Mr(hs:Rel F w σ){b:Nat}{t:Cj}(hb:σ b=some t)(hF:F b=0)(ob:Obj)(t':Cj)(ht:B9 F w F {w with heap:=w.heap.setIfInBounds b ob}→Holds F {w with heap:=w.heap.setIfInBounds b ob} b t'):
  Rel F {w with heap:=w.heap.setIfInBounds b ob} (σ.set b t')∧Ext F w σ F {w with heap:=w.heap.setIfInBounds b ob} (σ.set b t'):=by
 have hlt:=hs.lt_size hb;have hoth:∀x,x≠b→(w.heap.setIfInBounds b ob)[x]? =w.heap[x]? :=fun x hx=>by simp[Ne.symm hx]
 have hkp:B9 F w F {w with heap:=w.heap.setIfInBounds b ob}:=⟨fun _=>Nat.le_refl _,fun x off ho=>by
  have hne:x≠b:=fun e=>by subst e;omega
  exact World.cell?_of_block (w:=w) (hoth x hne)⟩
 refine⟨⟨fun x y hx=>?_,fun x hx=>hs.lt x (by simpa using hx)⟩,⟨hkp,rfl,rfl,rfl,by simp,fun x hx hn=>?_⟩⟩
 ·simp only[St.set]at hx
  by_cases hxb:x=b
  ·rw[if_pos hxb]at hx
   injection hx with hx;subst hx;subst hxb;exact ht hkp
  ·rw[if_neg hxb]at hx
   exact(hs.obj x y hx).mono hkp (hoth x hxb) rfl
 ·have hne:x≠b:=fun e=>by subst e;simp[hb]at hn
  exact⟨hoth x hne,by simp[St.set,hne,hn],rfl⟩
def Aij(σ:St)(k:AV→St→Prop):Prop:=∀b,σ b=none→k (.v (.map (some b))) (σ.set b (.map []))
def M7(P:Program)(i:Option TK)(σ:St)(m x:AV)(ok:Bool)(k:AV→Prop):Prop:=
 match i with
 |some i=>match i.td with
  | .map kt et=>match tk P kt,tk P et,m,x with
   |some kk,some ke,.v (.map none),.v x=>Lo kk.td x=true∧k (if ok then .tup [ke.zav,.v (.bool false)]else ke.zav)
   |some kk,some ke,.v (.map (some b)),.v x=>match σ b with
    |some (.map kv)=>Lo kk.td x=true∧(∀p∈kv,Lo kk.td p.1=true)∧match Rj x kv with
     |some u=>k (if ok then .tup [u,.v (.bool true)]else u)
     |none=>k (if ok then .tup [ke.zav,.v (.bool false)]else ke.zav)
    |_=>False
   |_,_,_,_=>False
  |_=>False
 |none=>False
def Kc(P:Program)(i:Option TK)(σ:St)(m x v:AV)(k:St→Prop):Prop:=
 match i with
 |some i=>match i.td with
  | .map kt et=>match tk P kt,m,x with
   |some kk,.v (.map (some b)),.v x=>match σ b with
    |some (.map kv)=>Lo kk.td x=true∧(∀p∈kv,Lo kk.td p.1=true)∧k (σ.set b (.map (mPut x v kv)))
    |_=>False
   |_,_,_=>False
  |_=>False
 |none=>False
def Kb(P:Program)(i:Option TK)(σ:St)(m x:AV)(k:AV→St→Prop):Prop:=
 match i with
 |some i=>match i.td with
  | .map kt et=>match tk P kt,m,x with
   |some kk,.v (.map (some b)),.v x=>match σ b with
    |some (.map kv)=>Lo kk.td x=true∧(∀p∈kv,Lo kk.td p.1=true)∧k (.tup []) (σ.set b (.map (mDel x kv)))
    |_=>False
   |_,_,_=>False
  |_=>False
 |none=>False
theorem X8{u v:AV}{x y:Value}(h1:RV F w u x)(h2:RV F w v y):RV F w (.tup [u,v]) (.tuple #[x,y]):=
 .tup _ _ rfl fun j hj=>by
  match j,hj with
  |0,_=>exact h1
  |1,_=>exact h2
theorem Abe{t:TypeId}(ho:o.op= .makeMap t none)(hs:Rel F w σ)(h:Aij σ k):Gk P o a F w σ k:=by
 obtain⟨r1,r2⟩:=H4 hs (.map #[] 0) (.map []) ⟨#[],0,heap_alloc_new w _,hs.lt _ (Nat.le_refl _),trivial⟩;exact Ba (x:=.map (some w.heap.size)) (by simp only[execOp,ho,Option.map_none,Sem.run_bind];rfl) r2 r1 (.v _) (h _ (Cc hs (Nat.le_refl _)))
theorem Adr{t:TypeId}{m x:Operand}{ok:Bool}{k:AV→Prop}(ho:o.op= .lookup t m x ok)(hm:Bb n m=true)(hx:Bb n x=true)(hf:Bc F w n fr a)(hs:Rel F w σ)(h:M7 P (tk P t) σ (fr.ev m) (fr.ev x) ok k):D8 P o a F w k:=by
 cases ht:tk P t with
 |none=>simp[ht,M7]at h
 |some i=>
  obtain⟨inf,d,z,h1,h2,h3,h4,h5,h6,h7,h8⟩:=Br ht;simp only[ht,M7]at h;have hmv:=hf.ev m hm;have hxv:=hf.ev x hx;revert h hmv hxv;generalize fr.ev m=mm;generalize fr.ev x=xx;intro h hmv hxv;split at h
  ·rename_i kt et htd
   obtain rfl:=Adu (P:=P) (d:=d) (by rw[←h7,htd]);split at h
   ·rename_i kk ke x' hkk hke
    obtain⟨_,d1,_,g1,g2,g3,g4,g5,g6,g7,g8⟩:=Br hkk;obtain⟨_,z',q1,q2,q3⟩:=Agd hke F w;have hkey:IsKey d1 x':=Ii (P:=P) (by rw[←g7];exact h.1);have hz:=Eo (P:=P) q1 q2 w;refine⟨if ok then .tuple #[z',.bool false]else z',_,?_,?_,h.2⟩
    ·simp only[execOp,ho,hmv.eq,hxv.eq,Instr.lookup,Sem.run_bind,run_underlying h2,Result.andThen_ok,Sem.run_pure,run_checkKey g2 hkey,Array.toList_empty,run_findKey (l:=[]) (a:=none) g2 rfl,hz]
    ·cases ok
     ·exact q3
     ·exact X8 q3 (.v _)
   ·rename_i kk ke b x' hkk hke
    obtain⟨_,d1,_,g1,g2,g3,g4,g5,g6,g7,g8⟩:=Br hkk;obtain⟨_,z',q1,q2,q3⟩:=Agd hke F w;split at h
    ·rename_i kv hb
     obtain⟨es,clk,r1,r2,r3⟩:=hs.obj b _ hb;have hkey:IsKey d1 x':=Ii (P:=P) (by rw[←g7];exact h.1);have hkeys:∀p∈kv,IsKey d1 p.1:=fun p hp=>Ii (P:=P) (by rw[←g7];exact h.2.1 p hp);have hz:=Eo (P:=P) q1 q2 w;rcases R5 hkey kv es.toList 0 r3 hkeys with⟨f1,f2,_⟩|⟨j,u,e,f1,f2,f3,_⟩
     ·rw[f1]at h
      refine⟨if ok then .tuple #[z',.bool false]else z',_,?_,?_,h.2.2⟩
      ·simp only[execOp,ho,hmv.eq,hxv.eq,Instr.lookup,Sem.run_bind,run_underlying h2,Result.andThen_ok,Sem.run_pure,Go.MapKept.run_getObj_map r1,run_checkKey g2 hkey,run_findKey g2 f2,hz]
      ·cases ok
       ·exact q3
       ·exact X8 q3 (.v _)
     ·rw[f1]at h
      refine⟨if ok then .tuple #[e.val,.bool true]else e.val,_,?_,?_,h.2.2⟩
      ·simp only[execOp,ho,hmv.eq,hxv.eq,Instr.lookup,Sem.run_bind,run_underlying h2,Result.andThen_ok,Sem.run_pure,Go.MapKept.run_getObj_map r1,run_checkKey g2 hkey,run_findKey g2 f2]
      ·cases ok
       ·exact f3
       ·exact X8 f3 (.v _)
    ·exact h.elim
   ·exact h.elim
  ·exact h.elim
theorem Ye{t:TypeId}{m x y:Operand}{k:St→Prop}(ho:o.op= .mapUpdate t m x y)(hm:Bb n m=true)(hx:Bb n x=true)(hy:Bb n y=true)(hf:Bc F w n fr a)(hs:Rel F w σ)(h:Kc P (tk P t) σ (fr.ev m) (fr.ev x) (fr.ev y) k):Gk P o a F w σ fun v σ'=>v= .v undef∧k σ':=by
 cases ht:tk P t with
 |none=>simp[ht,Kc]at h
 |some i=>
  obtain⟨inf,d,z,h1,h2,h3,h4,h5,h6,h7,h8⟩:=Br ht;simp only[ht,Kc]at h;have hmv:=hf.ev m hm;have hxv:=hf.ev x hx;have hyv:=hf.ev y hy;revert h hmv hxv hyv;generalize fr.ev m=mm;generalize fr.ev x=xx;generalize fr.ev y=yy;intro h hmv hxv hyv;split at h
  ·rename_i kt et htd
   obtain rfl:=Adu (P:=P) (d:=d) (by rw[←h7,htd]);split at h
   ·rename_i kk b x' hkk
    obtain⟨_,d1,_,g1,g2,g3,g4,g5,g6,g7,g8⟩:=Br hkk;split at h
    ·rename_i kv hb
     obtain⟨es,clk,r1,r2,r3⟩:=hs.obj b _ hb;have hkey:IsKey d1 x':=Ii (P:=P) (by rw[←g7];exact h.1);have hkeys:∀p∈kv,IsKey d1 p.1:=fun p hp=>Ii (P:=P) (by rw[←g7];exact h.2.1 p hp);have hlt:=hs.lt_size hb;have hnew:∀ob,({w with heap:=w.heap.setIfInBounds b ob}:World).heap[b]? =some ob:=fun ob=>by simp[hlt]
     rcases R5 hkey kv es.toList 0 r3 hkeys with⟨f1,f2,f3,f4⟩|⟨j,u,e,f1,f2,f3,f4,f5,f6,f7⟩
     ·obtain⟨e1,e2⟩:=Mr hs hb r2 (.map (es.push {key:=x',val:=a.eval y,born:=clk}) (clk+1)) (.map (mPut x' yy kv)) fun hkp=>⟨_,_,hnew _,r2,by
       rw[Array.toList_push];exact f4 _ _ _ _ (r3.mono hkp) rfl (hyv.mono hkp)⟩
      refine Mm ?_ e2 e1 ⟨rfl,h.2.2⟩;simp only[execOp,ho,hmv.eq,hxv.eq,Instr.mapUpdate,Sem.run_bind,run_underlying h2,Result.andThen_ok,Sem.run_pure,Go.MapKept.run_getObj_map r1,run_checkKey g2 hkey,run_findKey g2 f2,Go.MapKept.run_setObj_map _ r1]
     ·obtain⟨e1,e2⟩:=Mr hs hb r2 (.map (es.modify j fun e=>{e with key:=x',val:=a.eval y}) clk) (.map (mPut x' yy kv)) fun hkp=>⟨_,_,hnew _,r2,by
       rw[Array.toList_modify];exact f7 _ _ _ _ (r3.mono hkp) (hyv.mono hkp)⟩
      refine Mm ?_ e2 e1 ⟨rfl,h.2.2⟩;have hold:((es[j]?).map (·.key)).getD x'=x':=by
       rw[Array.getElem?_toList]at f4;rw[f4];exact f5
      have hst:=run_keyThatStays (P:=P) (w:=w) hkey;simp only[execOp,ho,hmv.eq,hxv.eq,Instr.mapUpdate,Sem.run_bind,run_underlying h2,Result.andThen_ok,Sem.run_pure,Go.MapKept.run_getObj_map r1,run_checkKey g2 hkey,run_findKey g2 f2,Nat.zero_add,hold,hst,Go.MapKept.run_setObj_map _ r1]
    ·exact h.elim
   ·exact h.elim
  ·exact h.elim
theorem Yd{t:TypeId}{ts:Array TypeId}{m x:Operand}{t2:TypeId}(ho:o.op= .call {callee:=.builtin .delete,args:=#[m,x],argTypes:=#[t,t2]})(hm:Bb n m=true)(hx:Bb n x=true)(hf:Bc F w n fr a)(hs:Rel F w σ)(h:Kb P (tk P t) σ (fr.ev m) (fr.ev x) k):Gk P o a F w σ k:=by
 cases ht:tk P t with
 |none=>simp[ht,Kb]at h
 |some i=>
  obtain⟨inf,d,z,h1,h2,h3,h4,h5,h6,h7,h8⟩:=Br ht;simp only[ht,Kb]at h;have hmv:=hf.ev m hm;have hxv:=hf.ev x hx;revert h hmv hxv;generalize fr.ev m=mm;generalize fr.ev x=xx;intro h hmv hxv;split at h
  ·rename_i kt et htd
   obtain rfl:=Adu (P:=P) (d:=d) (by rw[←h7,htd]);split at h
   ·rename_i kk b x' hkk
    obtain⟨_,d1,_,g1,g2,g3,g4,g5,g6,g7,g8⟩:=Br hkk;split at h
    ·rename_i kv hb
     obtain⟨es,clk,r1,r2,r3⟩:=hs.obj b _ hb;have hkey:IsKey d1 x':=Ii (P:=P) (by rw[←g7];exact h.1);have hkeys:∀p∈kv,IsKey d1 p.1:=fun p hp=>Ii (P:=P) (by rw[←g7];exact h.2.1 p hp);have hlt:=hs.lt_size hb;have hnew:∀ob,({w with heap:=w.heap.setIfInBounds b ob}:World).heap[b]? =some ob:=fun ob=>by simp[hlt]
     have hgo:∀y w',(Builtin.delete_ #[t,t2] o.type #[a.eval m,a.eval x]).run P w= .ok y w'→(execOp a.eval o).run P w= .ok (.value y) w':=fun y w' hy=>by
      simp[execOp,ho,resolve,invoke,builtin,hy]
     have hem:RV F {w with heap:=w.heap.setIfInBounds b (.map es clk)} (.tup []) (.tuple #[]):=.tup _ _ rfl fun j hj=>by simp at hj
     rcases R5 hkey kv es.toList 0 r3 hkeys with⟨f1,f2,f3,f4⟩|⟨j,u,e,f1,f2,f3,f4,f5,f6,f7⟩
     ·obtain⟨e1,e2⟩:=Mr hs hb r2 (.map es clk) (.map (mDel x' kv)) fun hkp=>⟨_,_,hnew _,r2,f3 _ _ (r3.mono hkp)⟩
      refine Ba (hgo _ _ ?_) e2 e1 hem h.2.2;simp only[hmv.eq,hxv.eq,Builtin.delete_,Sem.run_bind,run_underlying h2,Result.andThen_ok,Sem.run_pure,Go.MapKept.run_getObj_map r1,run_checkKey g2 hkey,run_findKey g2 f2,Go.MapKept.run_setObj_map _ r1,List.getElem?_toArray,List.getElem?_cons_zero,List.getElem?_cons_succ]
     ·obtain⟨e1,e2⟩:=Mr hs hb r2 (.map (es.eraseIdxIfInBounds j) clk) (.map (mDel x' kv)) fun hkp=>⟨_,_,hnew _,r2,by
       have:(es.eraseIdxIfInBounds j).toList=es.toList.eraseIdx j:=by
        unfold Array.eraseIdxIfInBounds;split
        ·simp
        ·rename_i hj
         rw[List.eraseIdx_of_length_le (by simpa using hj)]
       rw[this];exact f6 _ _ (r3.mono hkp)⟩
      refine Ba (x:=.tuple #[]) (hgo _ _ ?_) e2 e1 (.tup _ _ rfl fun j hj=>by simp at hj) h.2.2;simp only[hmv.eq,hxv.eq,Builtin.delete_,Sem.run_bind,run_underlying h2,Result.andThen_ok,Sem.run_pure,Go.MapKept.run_getObj_map r1,run_checkKey g2 hkey,run_findKey g2 f2,Go.MapKept.run_setObj_map _ r1,Nat.zero_add,List.getElem?_toArray,List.getElem?_cons_zero,List.getElem?_cons_succ]
    ·exact h.elim
   ·exact h.elim
  ·exact h.elim
end
def aMin(x y:AV)(k:AV→Prop):Prop:=
 match x,y with
 | .v (.int i a),.v (.int _ b)=>k (.v (.int i (min a b)))
 |_,_=>False
def aMax(x y:AV)(k:AV→Prop):Prop:=
 match x,y with
 | .v (.int i a),.v (.int _ b)=>k (.v (.int i (max a b)))
 |_,_=>False
def Ll(P:Program)(t:TypeId):Bool:=
 match P.underlying t with
 |some (.interface _)=>false
 |some _=>true
 |none=>false
def aMkI(P:Program)(t:TypeId)(x:AV)(k:AV→Prop):Prop:=
 Ll P t=true∧match x with
 | .v y=>k (.v (.iface t y))
 |_=>False
def aTyA(P:Program)(u:TypeId)(x:AV)(k:AV→Prop):Prop:=
 Ll P u=true∧match x with
 | .v (.iface t y)=>t=u∧k (.v y)
 |_=>False
def aClear(i:Option TK)(σ:St)(x:AV)(k:AV→St→Prop):Prop:=
 match i with
 |none=>False
 |some i=>match i.td with
  | .sl q _ ez _=>match x with
   | .v (.slice none _ _)=>k (.tup []) σ
   | .v (.slice (some ⟨b,p,none⟩) n _)=>if n=0 then k (.tup []) σ else match σ b with
    |some (.rows q' es false cap)=>q'=q∧0<q∧p % q=0∧p/q+n≤es.length∧ez.all Value.oneCell'=true∧k (.tup []) (σ.set b (.rows q (es.take (p/q)++List.replicate n (ez.map .v)++es.drop (p/q+n)) false cap))
    |_=>False
   |_=>False
  |_=>False
def aCap(i:Option TK)(x:AV)(k:AV→Prop):Prop:=
 match i,x with
 |some ⟨_,_,_,.sl ..⟩,.v (.slice _ _ c)=>k (.v (.int .i64 c))
 |_,_=>False
def cut(q:Nat)(σ:St)(x:AV)(n:Nat):Option (List (List AV)):=
 match x with
 | .sl q' es=>if q'=q∧es.length≤n then some es else none
 | .fsl q' es=>if q'=q∧es.length≤n then some es else none
 | .v (.slice (some ⟨b,p,none⟩) n' cap)=>src q false σ (.v (.slice (some ⟨b,p,none⟩) (min n' n) cap))
 |_=>none
def U0(i:Option TK)(σ:St)(d s:AV)(k:AV→St→Prop):Prop:=
 match i,d with
 |some ⟨_,_,_,.sl q _ _ _⟩,.v (.slice (some ⟨b,p,none⟩) n _)=>0<q∧∃es cap ys m,σ b=some (.rows q es false cap)∧p=m*q∧cut q σ s n=some ys∧m≤es.length∧m+ys.length≤cap∧
   k (.v (.int .i64 ys.length)) (σ.set b (.rows q (es.take m++ys++es.drop (m+ys.length)) false cap))
 |_,_=>False
def aBI(P:Program)(b:Builtin)(args:List AV)(ts:List TypeId)(σ:St)(k:AV→St→Prop):Prop:=
 match b with
 | .delete=>match args,ts with
  | [m,x],[t,_]=>Kb P (tk P t) σ m x k
  |_,_=>False
 | .min=>match args with
  | [x,y]=>aMin x y fun v=>k v σ
  |_=>False
 | .max=>match args with
  | [x,y]=>aMax x y fun v=>k v σ
  |_=>False
 | .clear=>match args,ts with
  | [x],[t]=>aClear (tk P t) σ x k
  |_,_=>False
 | .cap=>match args,ts with
  | [x],[t]=>aCap (tk P t) x fun v=>k v σ
  |_,_=>False
 | .copy=>match args,ts with
  | [x,y],[t,_]=>U0 (tk P t) σ x y k
  |_,_=>False
 |_=>False
def N3(i:Option TK)(σ:St)(l c:AV)(k:AV→St→Prop):Prop:=
 match i with
 |some i=>match i.td with
  | .sl q eby ez _=>match l,c with
   | .v (.int _ l),.v (.int _ c)=>0<q∧0<eby∧ez.all Value.oneCell'=true∧0≤l∧l≤c∧(eby:Int)*c≤281474976710656∧
    ∀b,σ b=none→k (.v (.slice (some ⟨b,0,none⟩) l.toNat c.toNat)) (σ.set b (.rows q (List.replicate l.toNat (ez.map .v)) false c.toNat))
   |_,_=>False
  |_=>False
 |none=>False
def Qa(P:Program)(c:Call)(fr:Fr)(σ:St)(k:AV→St→Prop):Prop:=
 match c.callee,c.args.toList with
 | .value (.tmp t),[]=>match fr t with
  | .v (.func (.func f) first captured)=>(∃fn,P.funcs[f]? =some fn∧fn.body.isSome=true∧fn.name≠ "runtime.NumGoroutine")∧Yr P f (first++captured)∧k (.v undef) σ
  |_=>False
 |_,_=>False
def Dv(P:Program)(o:Op)(fr:Fr)(σ:St)(k:AV→St→Prop):Prop:=
 match o with
 | .makeSlice t l c=>N3 (tk P t) σ (fr.ev l) (fr.ev c) k
 | .defer c=>Qa P c fr σ k
 | .makeMap _ none=>Aij σ k
 | .lookup t m x ok=>M7 P (tk P t) σ (fr.ev m) (fr.ev x) ok fun v=>k v σ
 | .mapUpdate t m x y=>Kc P (tk P t) σ (fr.ev m) (fr.ev x) (fr.ev y) fun σ'=>k (.v undef) σ'
 | .makeInterface t x=>aMkI P t (fr.ev x) fun v=>k v σ
 | .typeAssert x _ u false=>aTyA P u (fr.ev x) fun v=>k v σ
 |_=>False
section
variable{P:Program}{o:Oper}{n:Nat}{fr:Fr}{a:Act}{F:Bl}{w:World}{σ:St}{k:AV→St→Prop}
theorem Gk.mono{k':AV→St→Prop}(h:Gk P o a F w σ k)(hk:∀v σ',k v σ'→k' v σ'):Gk P o a F w σ k':=
 fun ro next Q hd hn=>h ro next Q hd fun F' w' x v σ' ds h1 h2 h3 h4 h5=>hn F' w' x v σ' ds h1 h2 h3 (hk v σ' h4) h5
theorem Dn{k1:AV→Prop}(h:D8 P o a F w k1)(hs:Rel F w σ)(hk:∀v,k1 v→k v σ):Gk P o a F w σ k:=
 (h.ok hs).mono fun v σ' ⟨e,h⟩=>by subst e;exact hk v h
theorem Aeb{t:TypeId}(h:Ll P t=true):∃d,P.underlying t=some d∧∀ms,d≠.interface ms:=by
 unfold Ll at h;split at h
 ·cases h
 ·rename_i d hne hd
  exact⟨_,hd,fun ms e=>hne ms e⟩
 ·cases h
theorem Jb{q:Nat}{es ys:List (List AV)}{m i:Nat}:(es.take m++ys++es.drop (m+ys.length)).getD i []=if i<m∧m≤es.length then es.getD i []else if m≤es.length∧i<m+ys.length then ys.getD (i-m) []else(es.take m++ys++es.drop (m+ys.length)).getD i []:=by
 by_cases hm:m≤es.length
 ·by_cases h1:i<m
  ·rw[if_pos ⟨h1,hm⟩,List.append_assoc]
   simp only[List.getD_eq_getElem?_getD];rw[List.getElem?_append_left (by simp;omega),List.getElem?_take,if_pos h1]
  ·rw[if_neg (by omega)]
   by_cases h2:i<m+ys.length
   ·rw[if_pos ⟨hm,h2⟩,List.append_assoc]
    simp only[List.getD_eq_getElem?_getD];rw[List.getElem?_append_right (by simp;omega),List.getElem?_append_left (by simp;omega)];simp[Nat.min_eq_left hm]
   ·rw[if_neg (by omega)]
 ·rw[if_neg (by omega),if_neg (by omega)]
theorem Alx(hs:Rel F w σ){b q m:Nat}{es ys:List (List AV)}{cap:Nat}{news:List Value}(hb:σ b=some (.rows q es false cap))(hm:m+ys.length≤es.length)(hq:0<q)(n1:news.length=ys.length*q)(n4:∀e∈ys,e.length=q∧e.all AV.one=true)
  (n5:∀i j,i<ys.length→j<q→RV F w ((ys.getD i []).getD j (.v undef)) (news.getD (i*q+j) undef)):
  Rel F (w.setCells b (m*q) news) (σ.set b (.rows q (es.take m++ys++es.drop (m+ys.length)) false cap))∧Ext F w σ F (w.setCells b (m*q) news) (σ.set b (.rows q (es.take m++ys++es.drop (m+ys.length)) false cap))∧w.there b (m*q) news.length:=by
 obtain⟨c,e',mm,g1,g2,g3,g4,g5,g6,g7⟩:=hs.obj b _ hb;have g6':F b=0:=g6;have hle:m≤es.length:=by omega
 have hfit:m*q+news.length≤c.size:=by
  rw[n1,←Nat.add_mul];exact Nat.le_trans (Nat.mul_le_mul_right _ (by omega)) g2
 have hth:w.there b (m*q) news.length:=fun j hj=>by
  have hlt:m*q+j<c.size:=by omega
  refine⟨by simp[World.cell?,g1,hlt],?_⟩;have:=g5 (m*q+j) (.inl hlt);simp only[World.frozen?,g1];simpa using this
 obtain⟨c',q1,q2,q3⟩:=Cw b e' mm news (m*q) w c g1;obtain⟨r1,r2⟩:=H7 hs hb g6' (m*q) news (.rows q (es.take m++ys++es.drop (m+ys.length)) false cap) fun hkp=>by
  have hlen:(es.take m++ys++es.drop (m+ys.length)).length=es.length:=by
   simp[Nat.min_eq_left hle];omega
  refine⟨c',e',mm,q1,by rw[q2];exact g2,by rw[hlen];exact g3,fun x hx=>?_,by rw[q2];exact g5,g6',fun i j hi hj=>?_⟩
  ·rcases List.mem_append.1 hx with h'|h'
   ·rcases List.mem_append.1 h' with h'|h'
    ·exact g4 x (List.mem_of_mem_take h')
    ·exact n4 x h'
   ·exact g4 x (List.mem_of_mem_drop h')
  ·rw[hlen]at hi
   by_cases h1:i<m
   ·have hlt:i*q+j<m*q:=by
     have:(i+1)*q≤m*q:=Nat.mul_le_mul_right _ h1;rw[Nat.succ_mul]at this;omega
    have e2:c'.getD (i*q+j) undef=c.getD (i*q+j) undef:=by rw[q3,if_neg (by omega)]
    rw[Jb (q:=q),if_pos ⟨h1,hle⟩,e2];exact(g7 i j hi hj).mono hkp
   ·by_cases h2:i<m+ys.length
    ·have hlt:(i-m)*q+j<news.length:=by
      rw[n1];have:(i-m+1)*q≤ys.length*q:=Nat.mul_le_mul_right _ (by omega);rw[Nat.succ_mul]at this;omega
     have hidx:i*q+j=m*q+((i-m)*q+j):=by
      rw[←Nat.add_assoc,←Nat.add_mul,show m+(i-m)=i by omega]
     have e2:c'.getD (i*q+j) undef=news.getD ((i-m)*q+j) undef:=by
      rw[q3,if_pos (by omega),show i*q+j-m*q=(i-m)*q+j by omega]
     rw[Jb (q:=q),if_neg (by omega),if_pos ⟨hle,h2⟩,e2];exact(n5 _ j (by omega) hj).mono hkp
    ·have e1:(es.take m++ys++es.drop (m+ys.length)).getD i []=es.getD i []:=by
      simp only[List.getD_eq_getElem?_getD];rw[List.getElem?_append_right (by simp;omega),List.getElem?_drop]
      congr 2
      simp[Nat.min_eq_left hle];omega
     have hge:m*q+news.length≤i*q:=by
      rw[n1,←Nat.add_mul];exact Nat.mul_le_mul_right _ (by omega)
     have e2:c'.getD (i*q+j) undef=c.getD (i*q+j) undef:=by rw[q3,if_neg (by omega)]
     rw[e1,e2];exact(g7 i j hi hj).mono hkp
 exact⟨r1,r2,hth⟩
theorem Alv(hs:Rel F w σ){b q m:Nat}{es ys:List (List AV)}{cap:Nat}{news:List Value}(hb:σ b=some (.rows q es false cap))(hle:m≤es.length)(hm:m+ys.length≤cap)(hq:0<q)(n1:news.length=ys.length*q)(n4:∀e∈ys,e.length=q∧e.all AV.one=true)
  (n5:∀i j,i<ys.length→j<q→RV F w ((ys.getD i []).getD j (.v undef)) (news.getD (i*q+j) undef)):
  Rel F (w.setCells b (m*q) news) (σ.set b (.rows q (es.take m++ys++es.drop (m+ys.length)) false cap))∧Ext F w σ F (w.setCells b (m*q) news) (σ.set b (.rows q (es.take m++ys++es.drop (m+ys.length)) false cap))∧w.there b (m*q) news.length:=by
 obtain⟨c,e',mm,g1,g2,g3,g4,g5,g6,g7⟩:=hs.obj b _ hb;have g6':F b=0:=g6;have hfit:m*q+news.length≤c.size:=by
  rw[n1,←Nat.add_mul];exact Nat.le_trans (Nat.mul_le_mul_right _ (by omega)) g2
 have hth:w.there b (m*q) news.length:=fun j hj=>by
  have hlt:m*q+j<c.size:=by omega
  refine⟨by simp[World.cell?,g1,hlt],?_⟩;have:=g5 (m*q+j) (.inl hlt);simp only[World.frozen?,g1];simpa using this
 obtain⟨c',q1,q2,q3⟩:=Cw b e' mm news (m*q) w c g1;obtain⟨r1,r2⟩:=H7 hs hb g6' (m*q) news (.rows q (es.take m++ys++es.drop (m+ys.length)) false cap) fun hkp=>by
  have hlen:(es.take m++ys++es.drop (m+ys.length)).length=m+ys.length+(es.length-(m+ys.length)):=by
   simp[Nat.min_eq_left hle];omega
  refine⟨c',e',mm,q1,by rw[q2];exact g2,by rw[hlen];omega,fun x hx=>?_,by rw[q2];exact g5,g6',fun i j hi hj=>?_⟩
  ·rcases List.mem_append.1 hx with h'|h'
   ·rcases List.mem_append.1 h' with h'|h'
    ·exact g4 x (List.mem_of_mem_take h')
    ·exact n4 x h'
   ·exact g4 x (List.mem_of_mem_drop h')
  ·rw[hlen]at hi
   by_cases h1:i<m
   ·have hlt:i*q+j<m*q:=by
     have:(i+1)*q≤m*q:=Nat.mul_le_mul_right _ h1;rw[Nat.succ_mul]at this;omega
    have e2:c'.getD (i*q+j) undef=c.getD (i*q+j) undef:=by rw[q3,if_neg (by omega)]
    rw[Jb (q:=q),if_pos ⟨h1,hle⟩,e2];exact(g7 i j (by omega) hj).mono hkp
   ·by_cases h2:i<m+ys.length
    ·have hlt:(i-m)*q+j<news.length:=by
      rw[n1];have:(i-m+1)*q≤ys.length*q:=Nat.mul_le_mul_right _ (by omega);rw[Nat.succ_mul]at this;omega
     have hidx:i*q+j=m*q+((i-m)*q+j):=by
      rw[←Nat.add_assoc,←Nat.add_mul,show m+(i-m)=i by omega]
     have e2:c'.getD (i*q+j) undef=news.getD ((i-m)*q+j) undef:=by
      rw[q3,if_pos (by omega),show i*q+j-m*q=(i-m)*q+j by omega]
     rw[Jb (q:=q),if_neg (by omega),if_pos ⟨hle,h2⟩,e2];exact(n5 _ j (by omega) hj).mono hkp
    ·have e1:(es.take m++ys++es.drop (m+ys.length)).getD i []=es.getD i []:=by
      simp only[List.getD_eq_getElem?_getD];rw[List.getElem?_append_right (by simp;omega),List.getElem?_drop]
      congr 2
      simp[Nat.min_eq_left hle];omega
     have hge:m*q+news.length≤i*q:=by
      rw[n1,←Nat.add_mul];exact Nat.mul_le_mul_right _ (by omega)
     have e2:c'.getD (i*q+j) undef=c.getD (i*q+j) undef:=by rw[q3,if_neg (by omega)]
     rw[e1,e2];exact(g7 i j (by omega) hj).mono hkp
 exact⟨r1,r2,hth⟩
theorem Ar0(hs:Rel F w σ){q m:Nat}{x:AV}{X:Value}{ys:List (List AV)}(h:cut q σ x m=some ys)(hv:RV F w x X):
  ∃(vs:List Value) (L:Nat),vs.length=ys.length*q∧(Builtin.lenOf X).run P w= .ok L w∧min L m=ys.length∧(Builtin.firstCells q ys.length X).run P w= .ok vs.toArray w∧(∀e∈ys,e.length=q∧e.all AV.one=true)∧
   ∀i j,i<ys.length→j<q→RV F w ((ys.getD i []).getD j (.v undef)) (vs.getD (i*q+j) undef):=by
 unfold cut at h;split at h
 ·split at h
  ·rename_i q' es hc
   injection h with h;subst h;obtain⟨vs,h1,h2,h3,h4,h5⟩:=Jg (P:=P) hs (q:=q) (byt:=false) (ys:=es) (x:=.sl q' es) (by simp[src,hc.1]) hv;exact⟨vs,es.length,h1,h2 w,Nat.min_eq_left hc.2,h3 w rfl,h4,h5⟩
  ·cases h
 ·split at h
  ·rename_i q' es hc
   injection h with h;subst h;obtain⟨vs,h1,h2,h3,h4,h5⟩:=Jg (P:=P) hs (q:=q) (byt:=false) (ys:=es) (x:=.fsl q' es) (by simp[src,hc.1]) hv;exact⟨vs,es.length,h1,h2 w,Nat.min_eq_left hc.2,h3 w rfl,h4,h5⟩
  ·cases h
 ·rename_i b p n' cap
  obtain⟨vs,h1,h2,h3,h4,h5⟩:=Jg (P:=P) hs h (.v _);have hl:ys.length=min n' m:=by
   simp only[src]at h;split at h
   ·split at h
    ·rename_i hc
     injection h with h;subst h;simp;omega
    ·cases h
   ·cases h
  rw[hv.eq]
  exact⟨vs,n',h1,by simp[Builtin.lenOf],by rw[hl],by
   have:=h3 w rfl;unfold Builtin.firstCells at this⊢;exact this,h4,h5⟩
 ·cases h
theorem Adn{t t2:TypeId}{x y:Operand}(ho:o.op= .call {callee:=.builtin .copy,args:=#[x,y],argTypes:=#[t,t2]})(hx:Bb n x=true)(hy:Bb n y=true)(hf:Bc F w n fr a)(hs:Rel F w σ)(h:U0 (tk P t) σ (fr.ev x) (fr.ev y) k):Gk P o a F w σ k:=by
 unfold U0 at h;split at h
 ·rename_i ag sz zr q eby ez byt b p len c ht hxv
  obtain⟨hq,es,cap,ys,m,hb,rfl,hcut,hle,hm,hk⟩:=h;obtain⟨inf,d,z,h1,h2,h3,h4,h5,h6,h7,h8⟩:=Br ht;obtain⟨e,ie,ze,rfl,k1,rfl,rfl,k4,rfl,k6,k7⟩:=J7 (P:=P) (d:=d) h7.symm;have hvx:=hf.ev x hx;rw[hxv]at hvx;obtain⟨vs,L,v1,v2,v3,v4,v5,v6⟩:=Ar0 (P:=P) hs hcut (hf.ev y hy);obtain⟨r1,r2,r3⟩:=Alv hs hb hle hm hq v1 v5 v6;have hone:∀v∈vs,v.oneCell'=true:=fun v hv=>by
   obtain⟨j,hj,rfl⟩:=List.getElem_of_mem hv;have hlt:j<ys.length*ie.size:=by omega
   have hi:j/ie.size<ys.length:=(Nat.div_lt_iff_lt_mul hq).2 hlt;have hmm:j % ie.size<ie.size:=Nat.mod_lt _ hq;have hr:=v6 _ _ hi hmm;rw[show j/ie.size*ie.size+j % ie.size=j by rw[Nat.mul_comm];exact Nat.div_add_mod j _]at hr;have e1:vs.getD j undef=vs[j]:=by simp[List.getD_eq_getElem?_getD,hj]
   rw[e1]at hr;refine hr.one ?_;have e2:ys.getD (j/ie.size) []=ys[j/ie.size]:=by simp[List.getD_eq_getElem?_getD,hi]
   have:=v5 _ (List.getElem_mem hi);rw[e2];have e3:(ys[j/ie.size]).getD (j % ie.size) (.v undef)=(ys[j/ie.size])[j % ie.size]'(by omega):=by simp[List.getD_eq_getElem?_getD,this.1,hmm]
   rw[e3];exact(List.all_eq_true.1 this.2) _ (List.getElem_mem _)
  have hst:=run_storeCells_cells (P:=P) b (m*ie.size) vs 0 w (fun j hj=>by simpa using(r3 j hj).1) (fun j hj=>by simpa using(r3 j hj).2) hone;rw[Nat.add_zero]at hst;refine Ba (x:=.int .i64 ys.length) ?_ r2 r1 (.v _) hk;have:(execOp a.eval o).run P w=((Builtin.copy_ #[t,t2] o.type #[a.eval x,a.eval y]).run P w).andThen fun v w'=>.ok (.value v) w':=by
   simp[execOp,ho,resolve,invoke,builtin]
  rw[this,hvx.eq];have v3':Nat.min L len=ys.length:=v3;simp[Builtin.copy_,run_underlying h2,A6 k1,v2,v3',v4,hst,goInt]
 ·exact h.elim
theorem Abc{t:TypeId}{x:Operand}(ho:o.op= .call {callee:=.builtin .clear,args:=#[x],argTypes:=#[t]})(hx:Bb n x=true)(hf:Bc F w n fr a)(hs:Rel F w σ)(h:aClear (tk P t) σ (fr.ev x) k):Gk P o a F w σ k:=by
 cases ht:tk P t with
 |none=>simp[ht,aClear]at h
 |some i=>
  obtain⟨inf,d,z,h1,h2,h3,h4,h5,h6,h7,h8⟩:=Br ht;simp only[ht,aClear]at h;have hv:=hf.ev x hx;revert h hv;generalize fr.ev x=xx;intro h hv;have hgo:∀y w',(Builtin.clear_ #[t] o.type #[a.eval x]).run P w= .ok y w'→(execOp a.eval o).run P w= .ok (.value y) w':=fun y w' hy=>by
   simp[execOp,ho,resolve,invoke,builtin,hy]
  split at h
  ·rename_i q eby ez byt htd
   obtain⟨e,ie,ze,rfl,k1,rfl,rfl,k4,rfl,k6,k7⟩:=J7 (P:=P) (d:=d) (by rw[←h7,htd]);split at h
   ·refine Ba (x:=.tuple #[]) (hgo _ _ ?_) (.refl F w σ) hs (.tup _ _ rfl fun j hj=>by simp at hj) h
    simp[hv.eq,Builtin.clear_,run_underlying h2]
   ·rename_i b p len cap
    by_cases hn:len=0
    ·rw[if_pos hn]at h
     subst hn;refine Ba (x:=.tuple #[]) (hgo _ _ ?_) (.refl F w σ) hs (.tup _ _ rfl fun j hj=>by simp at hj) h;simp[hv.eq,Builtin.clear_,run_underlying h2]
    ·rw[if_neg hn]at h
     split at h
     ·rename_i q' es cap' hb
      obtain⟨rfl,hq,hp,hle,hez,hk⟩:=h;have hz1:ze.cells.toList.length=ie.size:=by simpa using k6
      obtain⟨r1,r2,r3⟩:=Alx (m:=p/ie.size) (ys:=List.replicate len (ze.cells.toList.map .v)) (news:=(Builtin.zeroCells ze.cells len).toList) hs hb (by simpa using hle) hq (by simp[Ix,k6]) (fun e he=>by
       obtain⟨_,rfl⟩:=List.mem_replicate.1 he;exact⟨by simp[k6],by rw[List.all_map];exact hez⟩) (fun i j hi hj=>by
       rw[List.length_replicate]at hi;have hjz:j<ze.cells.size:=by omega
       have e1:((List.replicate len (ze.cells.toList.map AV.v)).getD i []).getD j (.v undef)= .v ze.cells[j]:=by
        have e0:(List.replicate len (ze.cells.toList.map AV.v)).getD i []=ze.cells.toList.map AV.v:=by
         rw[List.getD_eq_getElem?_getD,List.getElem?_replicate,if_pos hi];rfl
        rw[e0];simp[List.getD_eq_getElem?_getD,hjz]
       have hlt:i*ie.size+j<len*ze.cells.size:=by
        have:(i+1)*ie.size≤len*ie.size:=Nat.mul_le_mul_right _ hi;rw[Nat.succ_mul]at this;rw[k6];omega
       have hm:(i*ie.size+j)% ze.cells.size=j:=by
        rw[k6,Nat.add_comm,Nat.add_mul_mod_self_right,Nat.mod_eq_of_lt hj]
       have e2:(Builtin.zeroCells ze.cells len).toList.getD (i*ie.size+j) undef=ze.cells[j]:=by
        simp[Builtin.zeroCells,List.getD_eq_getElem?_getD,hlt,hm,hjz]
       rw[e1,e2];exact .v _)
      rw[List.length_replicate]at r1 r2;refine Ba (x:=.tuple #[]) (hgo _ _ ?_) r2 r1 (.tup _ _ rfl fun j hj=>by simp at hj) hk;have hpq:p/ie.size*ie.size=p:=by
       have:=Nat.div_add_mod p ie.size;rw[hp,Nat.mul_comm]at this;omega
      rw[hpq]at r3⊢
      have hst:=run_storeCells_cells (P:=P) b p (Builtin.zeroCells ze.cells len).toList 0 w (fun j hj=>by simpa using(r3 j hj).1) (fun j hj=>by simpa using(r3 j hj).2) (fun v hv=>by
       simp only[Builtin.zeroCells,Array.toList_map,Array.toList_range,List.mem_map,List.mem_range]at hv;obtain⟨i,hi,rfl⟩:=hv;have hpos:0<ze.cells.size:=by omega
       have hlt:i % ze.cells.size<ze.cells.size:=Nat.mod_lt _ hpos;rw[getElem!_pos ze.cells _ hlt];exact List.all_eq_true.1 hez _ (by simp))
      rw[Nat.add_zero]at hst;obtain⟨len',rfl⟩:∃l,len=l+1:=⟨len-1,by omega⟩;simp only[hv.eq,Builtin.clear_,Sem.run_bind,run_underlying h2,Result.andThen_ok,List.getElem?_toArray,List.getElem?_cons_zero,Eo k1 k4,hst,Sem.run_pure]
     ·exact h.elim
   ·exact h.elim
  ·exact h.elim
theorem Agk{b:Builtin}{args:List Operand}{ts:List TypeId}(ho:o.op= .call {callee:=.builtin b,args:=args.toArray,argTypes:=ts.toArray})(hargs:∀x∈args,Bb n x=true)(hf:Bc F w n fr a)(hs:Rel F w σ)
  (h:aBI P b (args.map fr.ev) ts σ k):Gk P o a F w σ k:=by
 unfold aBI at h;split at h
 ·split at h
  ·rename_i m x t t2 hx
   match args,hx with
   | [m',x'],hx=>
    simp only[List.map_cons,List.map_nil,List.cons.injEq,and_true]at hx;obtain⟨rfl,rfl⟩:=hx;exact Yd (ts:=#[]) ho (hargs _ (by simp)) (hargs _ (by simp)) hf hs h
  ·exact h.elim
 ·split at h
  ·rename_i x y hx
   match args,hx with
   | [x',y'],hx=>
    simp only[List.map_cons,List.map_nil,List.cons.injEq,and_true]at hx;obtain⟨rfl,rfl⟩:=hx;have hxv:=hf.ev x' (hargs _ (by simp));have hyv:=hf.ev y' (hargs _ (by simp));revert h hxv hyv;generalize fr.ev x'=xx;generalize fr.ev y'=yy;intro h hxv hyv;unfold aMin at h;split at h
    ·refine Cl hs (x:=.int _ _) ?_ (.v _) h
     have:=Go.Lib.run_min_ints (P:=P) w ts.toArray o.type;simp[execOp,ho,resolve,invoke,builtin,hxv.eq,hyv.eq,this]
    ·exact h.elim
  ·exact h.elim
 ·split at h
  ·rename_i x y hx
   match args,hx with
   | [x',y'],hx=>
    simp only[List.map_cons,List.map_nil,List.cons.injEq,and_true]at hx;obtain⟨rfl,rfl⟩:=hx;have hxv:=hf.ev x' (hargs _ (by simp));have hyv:=hf.ev y' (hargs _ (by simp));revert h hxv hyv;generalize fr.ev x'=xx;generalize fr.ev y'=yy;intro h hxv hyv;unfold aMax at h;split at h
    ·refine Cl hs (x:=.int _ _) ?_ (.v _) h
     have:=Go.Lib.run_max_ints (P:=P) w ts.toArray o.type;simp[execOp,ho,resolve,invoke,builtin,hxv.eq,hyv.eq,this]
    ·exact h.elim
  ·exact h.elim
 ·split at h
  ·rename_i x t hx
   match args,hx with
   | [x'],hx=>
    simp only[List.map_cons,List.map_nil,List.cons.injEq,and_true]at hx;obtain rfl:=hx;exact Abc ho (hargs _ (by simp)) hf hs h
  ·exact h.elim
 ·split at h
  ·rename_i x t hx
   match args,hx with
   | [x'],hx=>
    simp only[List.map_cons,List.map_nil,List.cons.injEq,and_true]at hx;obtain rfl:=hx;have hv:=hf.ev x' (hargs _ (by simp));unfold aCap at h;split at h
    ·rename_i ag sz zr q eby ez byt ad len c ht hxv
     obtain⟨inf,d,z,h1,h2,h3,h4,h5,h6,h7,h8⟩:=Br ht;obtain⟨e,ie,ze,rfl,k1,rfl,rfl,k4,rfl,k6,k7⟩:=J7 (P:=P) (d:=d) h7.symm;rw[hxv]at hv;refine Cl hs (x:=.int .i64 c) ?_ (.v _) h;simp[execOp,ho,resolve,invoke,builtin,hv.eq,Builtin.cap_,run_underlying h2,goInt]
    ·exact h.elim
  ·exact h.elim
 ·split at h
  ·rename_i x y t t2 hx
   match args,hx with
   | [x',y'],hx=>
    simp only[List.map_cons,List.map_nil,List.cons.injEq,and_true]at hx;obtain⟨rfl,rfl⟩:=hx;exact Adn ho (hargs _ (by simp)) (hargs _ (by simp)) hf hs h
  ·exact h.elim
 ·exact h.elim
theorem Alw{F:Bl}{w:World}{σ:St}(h:Rel F w σ){q cap:Nat}{es:List (List AV)}{vs:Array Value}(e:TypeId)(hc:cap*q≤vs.size)(hl:es.length≤cap)(h1:∀e∈es,e.length=q∧e.all AV.one=true)
  (hv:∀i j,i<es.length→j<q→RV F w ((es.getD i []).getD j (.v undef)) (vs.getD (i*q+j) undef)):Holds F (w.alloc (.cells vs e)) w.heap.size (.rows q es false cap):=by
 have hkp:=B9.alloc h (.cells vs e);exact⟨vs,e,(0,0),heap_alloc_new w _,hc,hl,h1,fun i _ hi=>by simp at hi,h.lt _ (Nat.le_refl _),fun i j hi hj=>(hv i j hi hj).mono hkp⟩
theorem Ads{t:TypeId}{l c:Operand}(ho:o.op= .makeSlice t l c)(hl:Bb n l=true)(hc:Bb n c=true)(hf:Bc F w n fr a)(hs:Rel F w σ)(h:N3 (tk P t) σ (fr.ev l) (fr.ev c) k):Gk P o a F w σ k:=by
 cases ht:tk P t with
 |none=>simp[ht,N3]at h
 |some i=>
  obtain⟨inf,d,z,h1,h2,h3,h4,h5,h6,h7,h8⟩:=Br ht;simp only[ht,N3]at h;cases htd:i.td with
  |sl q eby ez byt=>
   obtain⟨e,ie,ze,rfl,k1,rfl,rfl,k4,rfl,k6,k7⟩:=J7 (P:=P) (by rw[←h7,htd]);simp only[htd]at h;have hvl:=hf.ev l hl;have hvc:=hf.ev c hc;revert h hvl hvc;generalize fr.ev l=L;generalize fr.ev c=C;intro h hvl hvc;split at h
   ·rename_i kl l0 kc c0
    obtain⟨hq,hb,hez,g0,g1,g2,h⟩:=h;have h63:c0≤9223372036854775807:=by
     have:c0≤(ie.bytes:Int)*c0:=by
      have:1*c0≤(ie.bytes:Int)*c0:=Int.mul_le_mul_of_nonneg_right (by omega) (by omega);omega
     omega
    have hr:=run_make w t e ie ze h2 k1 k4 kl kc l0 c0 g0 g1 g2 h63;have hrun:(execOp a.eval o).run P w= .ok (.value (.slice (some ⟨w.heap.size,0,none⟩) l0.toNat c0.toNat)) (w.alloc (.cells (madeCells ze.cells (c0.toNat*ie.size)) e)):=by
     simp only[execOp,ho,hvl.eq,hvc.eq,Sem.run_bind,hr,Result.andThen_ok,Sem.run_pure]
    have hzl:(ze.cells.toList.map AV.v).length=ie.size:=by simp[k6]
    obtain⟨r1,r2⟩:=H4 hs (.cells (madeCells ze.cells (c0.toNat*ie.size)) e) (.rows ie.size (List.replicate l0.toNat (ze.cells.toList.map .v)) false c0.toNat) (Alw hs e (by simp[madeCells]) (by simp;omega) (fun x hx=>by
     obtain⟨_,rfl⟩:=List.mem_replicate.1 hx;exact⟨hzl,by rw[List.all_map];exact hez⟩) fun i j hi hj=>by
     simp only[List.length_replicate]at hi;have hlt:i*ie.size+j<c0.toNat*ie.size:=by
      have:(i+1)*ie.size≤c0.toNat*ie.size:=Nat.mul_le_mul_right _ (by omega);rw[Nat.succ_mul]at this;omega
     have e1:(List.replicate l0.toNat (ze.cells.toList.map AV.v)).getD i []=ze.cells.toList.map AV.v:=by simp[List.getD_eq_getElem?_getD,hi]
     have hm:(i*ie.size+j)% ie.size=j:=by rw[Nat.mul_comm i ie.size,Nat.mul_add_mod,Nat.mod_eq_of_lt hj]
     have e2:(madeCells ze.cells (c0.toNat*ie.size)).getD (i*ie.size+j) undef=ze.cells.getD j undef:=by
      simp[madeCells,hlt,k6,hm,hj]
     rw[e1,e2,Kn _ _ (by simp[k6];exact hj)];simp;exact .v _)
    exact Ba hrun r2 r1 (.v _) (h _ (Cc hs (Nat.le_refl _)))
   ·exact h.elim
  |_=>simp[htd]at h
theorem Abd{c:Call}(ho:o.op= .defer c)(hin:∀x,x∈o.op.operands→Bb n x=true)(hf:Bc F w n fr a)(hs:Rel F w σ)(h:Qa P c fr σ k):Gk P o a F w σ k:=by
 obtain⟨callee,args,ts⟩:=c;simp only[Qa]at h;split at h
 ·rename_i t hargs
  obtain rfl:args= #[]:=by apply Array.ext';simpa using hargs
  split at h
  ·rename_i f first captured hfr
   obtain⟨⟨fn,h1,h2,h3⟩,h4,h5⟩:=h;have hev:=hf.ev (.tmp t) (hin _ (by simp[ho,Op.operands,Call.operands]));simp only[Fr.ev,hfr]at hev;have he:=hev.eq;intro ro next Q hd hn;have hro:ro=none:=by
    rcases hd with h|h
    ·exact h
    ·rw[ho]at h;cases h
   subst hro;refine⟨fun _ _=>trivial,?_⟩;have hrun:(execOp a.eval o).run P w= .ok (.defer {target:=.fn (.func f) captured,args:=first}) w:=by
    simp[execOp,ho,resolve,he,Deferred.ofValue]
   rw[show o.semAt (wd none).round a.eval=execOp a.eval o from rfl,hrun,Oper.uponIn_defer]
   have:=hn F w undef (.v undef) σ [{target:=.fn (.func f) captured,args:=first}] (.refl F w σ) hs (.v _) h5 (fun d hd=>by
    simp only[List.mem_singleton]at hd;subst hd;refine⟨.func f,captured,f,first++captured,rfl,fun w=>?_,h4⟩;have hb:fn.body≠none:=by intro e;rw[e]at h2;cases h2
    simp[invoke,callFunc,h1,h3,hb])
   rw[←Alk]at this;exact this
  ·exact h.elim
 ·exact h.elim
theorem Yw(hin:∀x,x∈o.op.operands→Bb n x=true)(hf:Bc F w n fr a)(hs:Rel F w σ)(h:Dv P o.op fr σ k):Gk P o a F w σ k:=by
 cases ho:o.op with
 |makeSlice t l c=>
  rw[ho]at h;exact Ads ho (hin _ (by simp[ho,Op.operands])) (hin _ (by simp[ho,Op.operands])) hf hs h
 |defer c=>
  rw[ho]at h;exact Abd ho hin hf hs h
 |makeMap t r=>
  cases r with
  |none=>
   rw[ho]at h;exact Abe ho hs h
  |some r=>rw[ho]at h;exact h.elim
 |lookup t m x ok=>
  rw[ho]at h;simp only[Dv]at h;exact Dn (Adr ho (hin _ (by simp[ho,Op.operands])) (hin _ (by simp[ho,Op.operands])) hf hs h) hs fun _ h=>h
 |mapUpdate t m x y=>
  rw[ho]at h;simp only[Dv]at h;exact(Ye ho (hin _ (by simp[ho,Op.operands])) (hin _ (by simp[ho,Op.operands])) (hin _ (by simp[ho,Op.operands])) hf hs h).mono fun v σ' ⟨e,h⟩=>by subst e;exact h
 |makeInterface t x=>
  rw[ho]at h;simp only[Dv,aMkI]at h;obtain⟨hc,h⟩:=h;obtain⟨d,hd,hne⟩:=Aeb hc;have hv:=hf.ev x (hin _ (by simp[ho,Op.operands]));revert h hv;generalize fr.ev x=y;intro h hv;split at h
  ·refine Cl hs (x:=.iface t _) ?_ (.v _) h
   have hr:∀y,(Instr.makeInterface t y).run P w= .ok (.iface t y) w:=fun y=>by
    cases d<;>first|exact absurd rfl (hne _)|simp[Instr.makeInterface,run_underlying hd]
   simp only[execOp,ho,Sem.run_bind,hr,hv.eq,Result.andThen_ok,Sem.run_pure]
  ·exact h.elim
 |typeAssert x t u ok=>
  cases ok with
  |true=>rw[ho]at h;exact h.elim
  |false=>
   rw[ho]at h;simp only[Dv,aTyA]at h;obtain⟨hc,h⟩:=h;obtain⟨d,hd,hne⟩:=Aeb hc;have hv:=hf.ev x (hin _ (by simp[ho,Op.operands]));revert h hv;generalize fr.ev x=y;intro h hv;split at h
   ·rename_i t' y'
    obtain⟨rfl,h⟩:=h;refine Cl hs (x:=y') ?_ (.v _) h;have hr:(Instr.typeAssert (.iface t' y') t t' false).run P w= .ok y' w:=by
     cases d<;>first|exact absurd rfl (hne _)|simp[Instr.typeAssert,run_underlying hd]
    simp only[execOp,ho,Sem.run_bind,hv.eq,hr,Result.andThen_ok,Sem.run_pure]
   ·exact h.elim
 |_=>rw[ho]at h;exact h.elim
theorem Yv{o:Op}{fr fr':Fr}(h:∀x∈o.operands,fr.ev x=fr'.ev x):Dv P o fr σ k=Dv P o fr' σ k:=by
 cases o with
 |makeMap t r=>cases r<;>rfl
 |makeSlice t l c=>simp only[Dv,h l (by simp[Op.operands]),h c (by simp[Op.operands])]
 |defer c=>
  obtain⟨callee,args,ts⟩:=c;simp only[Dv,Qa];split
  ·rename_i t ha
   have:=h (.tmp t) (by simp[Op.operands,Call.operands]);simp only[Fr.ev]at this;simp only[this]
  ·rfl
 |lookup t m x ok=>simp only[Dv,h m (by simp[Op.operands]),h x (by simp[Op.operands])]
 |mapUpdate t m x y=>simp only[Dv,h m (by simp[Op.operands]),h x (by simp[Op.operands]),h y (by simp[Op.operands])]
 |makeInterface t x=>simp only[Dv,h x (by simp[Op.operands])]
 |typeAssert x t u ok=>cases ok<;>simp only[Dv,h x (by simp[Op.operands])]
 |_=>rfl
end
def Oa(P:Program)(f:FuncId):Bool:=
 match P.funcs[f]? with
 |some fn=>fn.body.isSome&&fn.name != "runtime.NumGoroutine"
 |none=>false
def Ae5(P:Program)(f:FuncId):Bool:=
 match P.funcs[f]? with
 |some fn=>fn.body.isNone&&fn.name== "maps.clone" &&(Extern.findNext fn).isNone
 |none=>false
def Nf(args:List AV)(σ:St)(k:AV→St→Prop):Prop:=
 match args with
 | [.v (.iface t (.map (some r)))]=>match σ r with
  |some (.map kv)=>∀b,σ b=none→k (.v (.iface t (.map (some b)))) (σ.set b (.map kv))
  |_=>False
 |_=>False
theorem Yt{args:List AV}{σ:St}{k k':AV→St→Prop}(hk:∀v σ,k v σ→k' v σ)(h:Nf args σ k):Nf args σ k':=by
 unfold Nf at h⊢;split at h
 ·split at h
  ·exact fun b hb=>hk _ _ (h b hb)
  ·exact h.elim
 ·exact h.elim
def Atp(P:Program)(f:FuncId)(args:List AV)(σ:St)(k:AV→St→Prop):Prop:=
 (∃fn,P.funcs[f]? =some fn∧fn.body=none)∧∀F w vs,Rel F w σ→RVs F w args vs→(∀x∈vs,∃a n c,x= .slice a n c)∧∃x r,(callFunc f vs.toArray).run P w= .ok (.value x) w∧RV F w r x∧k r σ
def Vp(P:Program)(f:FuncId):Bool:=
 match P.funcs[f]? with
 |some fn=>fn.body.isNone
 |none=>false
def AT(P:Program)(f:FuncId)(args:List AV)(σ:St)(Q:AV→St→Prop):Prop:=
 (Oa P f=true∧∀F w vs,Rel F w σ→RVs F w args vs→
  Calls P f vs.toArray w fun e w'=>∃x F' σ' r,e= .returned x∧Ext F w σ F' w' σ'∧Rel F' w' σ'∧RV F' w' r x∧Q r σ')∨
 (Vp P f=true∧((Ae5 P f=true∧Nf args σ Q)∨Atp P f args σ Q))
theorem AT.mono{P:Program}{f:FuncId}{args:List AV}{σ:St}{Q Q':AV→St→Prop}(h:AT P f args σ Q)(hq:∀r σ',Q r σ'→Q' r σ'):AT P f args σ Q':=
 h.imp (fun h=>⟨h.1,fun F w vs hs hv=>(h.2 F w vs hs hv).mono fun e w' ⟨x,F',σ',r,h1,h2,h3,h4,h5⟩=>⟨x,F',σ',r,h1,h2,h3,h4,hq r σ' h5⟩⟩) fun h=>⟨h.1,h.2.imp (fun h=>⟨h.1,Yt hq h.2⟩) fun h=>⟨h.1,fun F w vs hs hv=>by
  obtain⟨h1,x,r,h2,h3,h4⟩:=h.2 F w vs hs hv;exact⟨h1,x,r,h2,h3,hq _ _ h4⟩⟩⟩
theorem AT.p{P:Program}{f:FuncId}{args:List AV}{σ τ:St}{v:AV}{K:AV→St→Prop}(h:AT P f args σ fun r σ'=>r=v∧σ'=τ)(k:K v τ):AT P f args σ K:=h.mono (by rintro _ _ ⟨rfl,rfl⟩;exact k)
def Nu:Option TK→Bool
 |some {td:=.int _,.. }=>false
 |some _=>true
 |none=>false
def YC(P:Program)(l:Nat)(args:List AV)(σ:St)(k:AV→St→Prop):Prop:=
 ∀F w vs,Rel F w σ→RVs F w args vs→∃f tmps assign body,(Instr.yield l vs.toArray).run P w= .ok (.round l f tmps assign body) w∧
  RoundIn Fence.wide 0 P l f tmps assign body w fun e w'=>∃x F' σ' r,e= .returned x∧Ext F w σ F' w' σ'∧Rel F' w' σ'∧RV F' w' r x∧k r σ'
theorem YC.mono{P:Program}{l:Nat}{args:List AV}{σ:St}{k k':AV→St→Prop}(h:YC P l args σ k)(hk:∀v σ,k v σ→k' v σ):YC P l args σ k':=fun F w vs hs hv=>by
 obtain⟨f,tmps,assign,body,h1,h2⟩:=h F w vs hs hv;exact⟨f,tmps,assign,body,h1,h2.mono fun e w' ⟨x,F',σ',r,g1,g2,g3,g4,g5⟩=>⟨x,F',σ',r,g1,g2,g3,g4,hk _ _ g5⟩⟩
def Ka(P:Program)(x:AV)(args:List AV)(σ:St)(k:AV→St→Prop):Prop:=
 match x with
 | .v (.func (.yield l) first captured)=>first.toList=[]∧captured.toList=[]∧YC P l args σ k
 | .v (.func (.func f) first captured)=>AT P f (first.toList.map .v++args++captured.toList.map .v) σ k
 |_=>False
def Fe(P:Program)(c:Call)(fr:Fr)(σ:St)(k:AV→St→Prop):Prop:=
 match c.callee with
 | .value (.func f)=>AT P f (c.args.toList.map fr.ev) σ k
 | .value (.tmp t)=>Ka P (fr t) (c.args.toList.map fr.ev) σ k
 | .builtin .len=>match c.args.toList,c.argTypes.toList with
  | [x],[t]=>K6 (tk P t) (fr.ev x) fun v=>k v σ
  |_,_=>False
 | .builtin .append=>match c.args.toList,c.argTypes.toList with
  | [s,x],[t1,t2]=>if Nu (tk P t2)=true then aApp (tk P t1) σ (fr.ev s) (fr.ev x) k else aAppN (tk P t1) (tk P t2) σ (fr.ev s) (fr.ev x) k
  |_,_=>False
 | .builtin b=>aBI P b (c.args.toList.map fr.ev) c.argTypes.toList σ k
 |_=>False
def Axj:AV→Option Value
 | .v x=>some x
 |_=>none
def C9(ev:Operand→AV):List Operand→Option (List Value)
 | []=>some []
 |x::r=>match ev x with
  | .v y=>match C9 ev r with
   |some ys=>some (y::ys)
   |none=>none
  |_=>none
def Fq(fn:Fn)(ev:Operand→AV)(first captured:List Operand)(k:AV→Prop):Prop:=
 match C9 ev first,C9 ev captured with
 |some xs,some ys=>k (.v (.func fn xs.toArray ys.toArray))
 |_,_=>False
def aOp(P:Program)(o:Op)(fr:Fr)(σ:St)(k:AV→St→Prop):Prop:=
 match o with
 | .move x=>k (fr.ev x) σ
 | .assign x=>k (fr.ev x) σ
 | .pick c x y=>Jm (fr.ev c) (fr.ev x) (fr.ev y) fun v=>k v σ
 | .alloc e=>K4 (tk P e) σ k
 | .box _ x=>aBox (fr.ev x) σ k
 | .build t ps=>H8 (tk P t) (evs fr.ev ps.toList) fun v=>k v σ
 | .buildSlice t n ps=>Hc (tk P t) n (evs fr.ev ps.toList) fun v=>k v σ
 | .load t x=>Da (tk P t) σ (fr.ev x) fun v=>k v σ
 | .store t x y=>Gq (tk P t) σ (fr.ev x) (fr.ev y) fun σ'=>k (.v undef) σ'
 | .nilCheck x=>Qb (fr.ev x) fun v=>k v σ
 | .binOp op t x y _=>D9 P op t (fr.ev x) (fr.ev y) fun v=>k v σ
 | .unOp op _ x=>aUn op (fr.ev x) fun v=>k v σ
 | .convert s d x=>Ji (tk P s) (tk P d) σ (fr.ev x) k
 | .makeFunc fn first captured=>Fq fn fr.ev first.toList captured.toList fun v=>k v σ
 | .slice t x lo hi mx=>aSli (tk P t) σ (fr.ev x) (lo.map fr.ev) (hi.map fr.ev) (mx.map fr.ev) fun v=>k v σ
 | .fieldAddr s x f=>I3 (tk P s) f (fr.ev x) fun v=>k v σ
 | .field s x f=>N1 (tk P s) f (fr.ev x) fun v=>k v σ
 | .indexAddr t x ix=>Fs (tk P t) σ (fr.ev x) (fr.ev ix) fun v=>k v σ
 | .index t x ix=>Sg (tk P t) (fr.ev x) (fr.ev ix) fun v=>k v σ
 | .extract x j=>Hp (fr.ev x) j fun v=>k v σ
 | .call c=>Fe P c fr σ k
 |o=>Dv P o fr σ k
section
variable{P:Program}{o:Oper}{n:Nat}{fr:Fr}{a:Act}{F:Bl}{w:World}{σ:St}{k:AV→St→Prop}
theorem Qo(hf:Bc F w n fr a):∀(l:List Operand) (ys:List Value),(∀x∈l,Bb n x=true)→C9 fr.ev l=some ys→l.map a.eval=ys
 | [],ys,_,h=>by
  simp only[C9,Option.some.injEq]at h;subst h;rfl
 |x::l,ys,hin,h=>by
  simp only[C9]at h;split at h
  ·rename_i y hy
   split at h
   ·rename_i zs hz
    injection h with h;subst h;have h1:=hf.ev x (hin x (by simp));rw[hy]at h1;rw[List.map_cons,h1.eq,Qo hf l zs (fun x hx=>hin x (by simp[hx])) hz]
   ·cases h
  ·cases h
theorem Wu(hf:Bc F w n fr a)(l:List Operand)(hin:∀x∈l,Bb n x=true):RVs F w (l.map fr.ev) (l.map a.eval):=
 ⟨by simp,fun j hj=>by
  simp at hj;have e1:(l.map fr.ev).getD j (.v undef)=fr.ev l[j]:=by simp[List.getD_eq_getElem?_getD,hj]
  have e2:(l.map a.eval).getD j undef=a.eval l[j]:=by simp[List.getD_eq_getElem?_getD,hj]
  rw[e1,e2];exact hf.ev _ (hin _ (List.getElem_mem hj))⟩
theorem RVs.append{cs cs':List AV}{vs vs':List Value}(h:RVs F w cs vs)(h':RVs F w cs' vs'):RVs F w (cs++cs') (vs++vs'):=
 ⟨by simp[h.1,h'.1],fun j hj=>by
  simp only[List.getD_eq_getElem?_getD];by_cases hlt:j<cs.length
  ·rw[List.getElem?_append_left hlt,List.getElem?_append_left (by rw[h.1];exact hlt)]
   simpa[List.getD_eq_getElem?_getD]using h.2 j hlt
  ·rw[List.getElem?_append_right (by omega),List.getElem?_append_right (by rw[h.1];omega),h.1]
   have:=h'.2 (j-cs.length) (by simp at hj;omega);simpa[List.getD_eq_getElem?_getD]using this⟩
theorem Ad8{f:FuncId}{args:List AV}{vs:List Value}(hex:(execOp a.eval o).run P w=(callFunc f vs.toArray).run P w)(hs:Rel F w σ)(hv:RVs F w args vs)(h:AT P f args σ k):Gk P o a F w σ k:=by
 rcases h with⟨hc,h⟩|⟨hc,h⟩
 ·intro ro next Q _ hn
  replace hn:=Afg hn
  have hrun:(callFunc f vs.toArray).run P w= .ok (.enter f vs.toArray) w:=by
   unfold Oa at hc;split at hc
   ·rename_i fn hfn
    simp only[Bool.and_eq_true]at hc;have h1:¬fn.name= "runtime.NumGoroutine" :=by
     have:=hc.2;simpa[bne]using this
    have h2:¬fn.body=none:=by intro e;simp[e]at hc
    simp[callFunc,hfn,h1,h2]
   ·cases hc
  refine⟨fun _ _=>trivial,?_⟩;rw[J4 _ (hex.trans hrun) (fun d h=>by cases h),hex,hrun];refine⟨(fun h=>by cases h),?_⟩;refine(callsIn_wide (n:=0)).2 ((h F w vs hs hv).mono ?_);rintro e w' ⟨x,F',σ',r,h1,h2,h3,h4,h5⟩;subst h1;exact hn F' w' x r σ' h2 h3 h4 h5
 ·rcases h with⟨hc,h⟩|⟨_,h⟩
  rotate_left
  ·obtain⟨_,x,r,h1,h2,h3⟩:=h F w vs hs hv
   intro ro next Q _ hn
   replace hn:=Afg hn
   have hrun2:=hex.trans h1;refine⟨fun _ _=>trivial,?_⟩;rw[J4 _ hrun2 (fun d h=>by cases h),hrun2];exact hn F _ _ _ _ (.refl F w σ) hs h2 h3
  unfold Ae5 at hc;split at hc
  ·rename_i fn hfn
   simp only[Bool.and_eq_true,beq_iff_eq]at hc;unfold Nf at h;split at h
   ·rename_i t r
    have hv1:vs=[.iface t (.map (some r))]:=by
     match vs,hv with
     | [x],hv=>rw[show x=_ from(hv.2 0 (by simp)).eq]
     | [],hv=>exact absurd hv.1 (by simp)
     |_::_::_,hv=>exact absurd hv.1 (by simp)
    split at h
    ·rename_i kv hr
     obtain⟨es,clk,g1,g2,g3⟩:=hs.obj r _ hr;have hfind:Extern.find fn=some Extern.MapsClone.clone:=by
      unfold Extern.find;rw[hc.1.2];rfl
     have hnext:Extern.findNext fn=none:=by
      cases hq:Extern.findNext fn with
      |none=>rfl
      |some x=>rw[hq]at hc;exact absurd hc.2 (by simp)
     have hrun:=run_callFunc_extern (P:=P) hfn (by rw[hc.1.2];rfl) hc.1.1 hnext hfind #[.iface t (.map (some r))] w;have hcl:(Extern.MapsClone.clone #[.iface t (.map (some r))]).run P w= .ok (.iface t (.map (some w.heap.size))) (w.alloc (.map es clk)):=by
      have e:Extern.MapsClone.clone #[.iface t (.map (some r))]=(getObj r>>=fun o=>match o with
        | .map entries clock=>(newObj (.map entries clock)>>=fun n=>pure (.iface t (.map (some n))))
        |_=>stuck "maps.clone: a map expected"):=rfl
      rw[e];simp only[Sem.run_bind,Go.MapKept.run_getObj_map g1,Result.andThen_ok];rfl
     obtain⟨r1,r2⟩:=H4 hs (.map es clk) (.map kv) ⟨es,clk,heap_alloc_new w _,hs.lt _ (Nat.le_refl _),g3.mono (B9.alloc hs _)⟩;have hrun2:(execOp a.eval o).run P w= .ok (.value (.iface t (.map (some w.heap.size)))) (w.alloc (.map es clk)):=by
      rw[hex,hv1,show([Value.iface t (.map (some r))].toArray)= #[.iface t (.map (some r))]from rfl,hrun,hcl];rfl
     intro ro next Q _ hn
     replace hn:=Afg hn
     refine⟨fun _ _=>trivial,?_⟩;rw[J4 _ hrun2 (fun d h=>by cases h),hrun2];exact hn F _ _ _ _ r2 r1 (.v _) (h _ (Cc hs (Nat.le_refl _)))
    ·exact h.elim
   ·exact h.elim
  ·cases hc
theorem Ac1{ops:Array Oper}(h:Gv n ops o=true)(x:Operand)(hx:x∈o.op.operands):Bb n x=true:=by
 simp only[Gv,Bool.and_eq_true]at h;exact Array.all_eq_true_iff_forall_mem.1 h.1.1 x hx
theorem T3{ops:Array Oper}(h:Gv n ops o=true)(t:Nat)(ht:o.dst=some t):t<n:=by
 simp only[Gv,Bool.and_eq_true,ht]at h;simpa using h.1.2
theorem Ago{ops:Array Oper}(hok:Gv n ops o=true)(hf:Bc F w n fr a)(hs:Rel F w σ)(h:aOp P o.op fr σ k):Gk P o a F w σ k:=by
 have hin:=fun x=>Ac1 (o:=o) hok x;cases ho:o.op with
 |move x=>
  rw[ho]at h;simp only[aOp]at h;exact Cl hs (x:=a.eval x) (by simp[execOp,ho]) (hf.ev x (hin x (by simp[ho,Op.operands]))) h
 |assign x=>
  rw[ho]at h;simp only[aOp]at h;exact Cl hs (x:=a.eval x) (by simp[execOp,ho]) (hf.ev x (hin x (by simp[ho,Op.operands]))) h
 |pick c x y=>
  rw[ho]at h;simp only[aOp]at h;exact Dn (Adt ho (hin _ (by simp[ho,Op.operands])) (hin _ (by simp[ho,Op.operands])) (hin _ (by simp[ho,Op.operands])) hf h) hs fun _ h=>h
 |alloc e=>
  rw[ho]at h;simp only[aOp]at h;exact Aba ho hs h
 |box e x=>
  rw[ho]at h;simp only[aOp]at h;exact Ah1 ho (hin _ (by simp[ho,Op.operands])) hf hs h
 |build t ps=>
  rw[ho]at h;simp only[aOp]at h;refine Dn (Abb ho (fun p hp=>hin _ ?_) hf h) hs fun _ h=>h;simp only[ho,Op.operands,List.mem_toArray];exact List.mem_map.2 ⟨p,hp,rfl⟩
 |buildSlice t len ps=>
  rw[ho]at h;simp only[aOp]at h;refine(Yc ho (fun p hp=>hin _ ?_) hf hs h).mono fun v σ' ⟨e,h⟩=>by subst e;exact h
  simp only[ho,Op.operands,List.mem_toArray];exact List.mem_map.2 ⟨p,hp,rfl⟩
 |load t x=>
  rw[ho]at h;simp only[aOp]at h;exact(Adq ho (hin _ (by simp[ho,Op.operands])) hf hs h).mono fun v σ' ⟨e,h⟩=>by subst e;exact h
 |store t x y=>
  rw[ho]at h;simp only[aOp]at h;exact(Abf ho (hin _ (by simp[ho,Op.operands])) (hin _ (by simp[ho,Op.operands])) hf hs h).mono fun v σ' ⟨e,h⟩=>by subst e;exact h
 |nilCheck x=>
  rw[ho]at h;simp only[aOp]at h;exact Dn (Ah6 ho (hin _ (by simp[ho,Op.operands])) hf h) hs fun _ h=>h
 |binOp op t x y ty=>
  rw[ho]at h;simp only[aOp]at h;exact Dn (Ah0 ho (hin _ (by simp[ho,Op.operands])) (hin _ (by simp[ho,Op.operands])) hf h) hs fun _ h=>h
 |unOp op t x=>
  rw[ho]at h;simp only[aOp]at h;exact Dn (Al1 ho (hin _ (by simp[ho,Op.operands])) hf h) hs fun _ h=>h
 |convert s d x=>
  rw[ho]at h;simp only[aOp]at h;exact Adm ho (hin _ (by simp[ho,Op.operands])) hf hs h
 |makeFunc fn first captured=>
  rw[ho]at h;simp only[aOp,Fq]at h;split at h
  ·rename_i xs ys hx hy
   have e1:=Qo hf _ _ (fun x hm=>hin x (by simp[ho,Op.operands];left;simpa using hm)) hx;have e2:=Qo hf _ _ (fun x hm=>hin x (by simp[ho,Op.operands];right;simpa using hm)) hy;refine Cl hs (x:=.func fn xs.toArray ys.toArray) ?_ (.v _) h;have f1:first.map a.eval=xs.toArray:=by apply Array.ext';simpa using e1
   have f2:captured.map a.eval=ys.toArray:=by apply Array.ext';simpa using e2
   simp[execOp,ho,Instr.makeFunc,f1,f2]
  ·exact h.elim
 |slice t x lo hi mx=>
  rw[ho]at h;simp only[aOp]at h;refine Dn (Ah7 ho (hin _ (by simp[ho,Op.operands])) (fun y hy=>hin y (by simp[ho,Op.operands,hy])) (fun y hy=>hin y (by simp[ho,Op.operands,hy])) (fun y hy=>hin y (by simp[ho,Op.operands,hy])) hf hs h) hs fun _ h=>h
 |fieldAddr s x f=>
  rw[ho]at h;simp only[aOp]at h;exact Dn (Ado ho (hin _ (by simp[ho,Op.operands])) hf h) hs fun _ h=>h
 |field s x f=>
  rw[ho]at h;simp only[aOp]at h;exact Dn (Ah3 ho (hin _ (by simp[ho,Op.operands])) hf h) hs fun _ h=>h
 |indexAddr t x ix=>
  rw[ho]at h;simp only[aOp]at h;exact Dn (Adp ho (hin _ (by simp[ho,Op.operands])) (hin _ (by simp[ho,Op.operands])) hf h) hs fun _ h=>h
 |index t x ix=>
  rw[ho]at h;simp only[aOp]at h;exact Dn (Ah4 ho (hin _ (by simp[ho,Op.operands])) (hin _ (by simp[ho,Op.operands])) hf h) hs fun _ h=>h
 |extract x j=>
  rw[ho]at h;simp only[aOp]at h;exact Dn (Ah2 ho (hin _ (by simp[ho,Op.operands])) hf h) hs fun _ h=>h
 |call c=>
  rw[ho]at h;obtain⟨callee,args,argTypes⟩:=c;simp only[aOp,Fe]at h;have hargs:∀x∈args.toList,Bb n x=true:=fun x hx=>hin x (by simp[ho,Op.operands,Call.operands];right;simpa using hx);cases callee with
  |value y=>
   cases y with
   |func f=>
    refine Ad8 (vs:=args.toList.map a.eval) ?_ hs (Wu hf _ hargs) h;have:args.map a.eval=(args.toList.map a.eval).toArray:=by apply Array.ext';simp
    simp[execOp,ho,resolve,Deferred.ofValue,Act.eval,invoke,this]
   |tmp t=>
    simp only[Ka]at h;split at h
    ·rename_i l first captured hfr
     obtain⟨h1,h2,h⟩:=h;have hev:=hf.ev (.tmp t) (hin _ (by simp[ho,Op.operands,Call.operands]));simp only[Fr.ev,hfr]at hev;have he:=hev.eq;have hfi:first= #[]:=by apply Array.ext';simpa using h1
     have hca:captured= #[]:=by apply Array.ext';simpa using h2
     obtain⟨f,tmps,assign,body,hy,hr⟩:=h F w (args.toList.map a.eval) hs (Wu hf _ hargs);have hrun:(execOp a.eval o).run P w= .ok (.round l f tmps assign body) w:=by
      have:args.map a.eval=(args.toList.map a.eval).toArray:=by apply Array.ext';simp
      simp only[execOp,ho,resolve,he,hfi,hca,Deferred.ofValue,Sem.run_bind,Sem.run_pure,Result.andThen_ok,invoke,this,Array.empty_append];exact hy
     intro ro next Q _ hn
     replace hn:=Afg hn
     refine⟨fun _ _=>trivial,?_⟩;rw[J4 _ hrun (fun d h=>by cases h),hrun];refine⟨(fun h=>by cases h),?_⟩;refine RoundIn.mono (F:=Fence.wide) (n:=0) hr ?_;rintro e w' ⟨x,F',σ',r,g1,g2,g3,g4,g5⟩;subst g1;exact hn F' w' x r σ' g2 g3 g4 g5
    ·rename_i f first captured hfr
     have hev:=hf.ev (.tmp t) (hin _ (by simp[ho,Op.operands,Call.operands]));simp only[Fr.ev,hfr]at hev;have he:=hev.eq;refine Ad8 (vs:=first.toList++args.toList.map a.eval++captured.toList) ?_ hs (((RVs.ofVals F w _).append (Wu hf _ hargs)).append (RVs.ofVals F w _)) h;have:first++args.map a.eval++captured=(first.toList++args.toList.map a.eval++captured.toList).toArray:=by apply Array.ext';simp
     simp only[execOp,ho,resolve,he,Deferred.ofValue,Sem.run_bind,Sem.run_pure,Result.andThen_ok,invoke,this]
    ·exact h.elim
   |_=>exact h.elim
  |invoke r m=>exact h.elim
  |builtin b=>
   cases b<;>simp only at h
   case len=>
    split at h
    ·rename_i x t hx ht
     obtain rfl:args= #[x]:=by apply Array.ext';simpa using hx
     obtain rfl:argTypes= #[t]:=by apply Array.ext';simpa using ht
     exact Dn (Ah5 ho (hargs x (by simp)) hf h) hs fun _ h=>h
    ·exact h.elim
   case append=>
    split at h
    ·rename_i s x t1 t2 hx ht
     obtain rfl:args= #[s,x]:=by apply Array.ext';simpa using hx
     obtain rfl:argTypes= #[t1,t2]:=by apply Array.ext';simpa using ht
     by_cases hn:Nu (tk P t2)=true
     case neg=>
      rw[if_neg hn]at h;exact Adl ho (hargs s (by simp)) (hargs x (by simp)) hf hs h
     rw[if_pos hn]at h;refine Ahz ho (hargs s (by simp)) (hargs x (by simp)) hf hs ?_ h;cases hq:tk P t2 with
     |none=>rw[hq]at hn;cases hn
     |some j=>
      refine⟨j,rfl,fun q e=>?_⟩;rw[hq]at hn;obtain⟨ag,sz,zr,td⟩:=j;simp only at e;subst e;cases hn
    ·exact h.elim
   all_goals first
    |exact h.elim
    |exact Agk (args:=args.toList) (ts:=argTypes.toList) (by rw[ho]) hargs hf hs h
 |_=>exact Yw hin hf hs (by rw[ho]at h⊢;exact h)
end
def aIf(b:Bool)(A B:Prop):Prop:=if b=true then A else B
def aGd(ds:List (Option Nat))(fr:Fr)(g:Option (Nat×Bool))(A B:Prop):Prop:=
 match g with
 |none=>A
 |some (j,want)=>match ds.getD j none with
  |some d=>match fr d with
   | .v (.bool b)=>if want then aIf b A B else aIf b B A
   | .v _=>B
   |_=>False
  |none=>False
def M1(P:Program)(ds:List (Option Nat)):List Oper→(Fr→St→Prop)→Fr→St→Prop
 | [],K,fr,σ=>K fr σ
 |o::r,K,fr,σ=>aGd ds fr o.guard (aOp P o.op fr σ fun v σ'=>M1 P ds r K (fr.put o.dst v) σ') (M1 P ds r K (fr.put o.dst (.v undef)) σ)
def Ie(ops:Array Oper):List (Option Nat):=ops.toList.map (·.dst)
def Jl(P:Program)(ops:Array Oper):List Nat→(Fr→St→Prop)→Fr→St→Prop
 | [],K,fr,σ=>K fr σ
 |i::r,K,fr,σ=>match ops[i]? with
  |none=>Jl P ops r K fr σ
  |some o=>aGd (Ie ops) fr o.guard (aOp P o.op fr σ fun v σ'=>Jl P ops r K (fr.put o.dst v) σ') (Jl P ops r K (fr.put o.dst (.v undef)) σ)
def U1(P:Program)(ops:Array Oper)(K:Fr→St→Prop)(fr:Fr)(σ:St):Prop:=
 ∀t,Jl P ops (Region.schedule (P.follows .mixedOrders) ops t) K fr σ
inductive AEx where
 |normal
 |exit (id:Nat)
 |goto (l:Nat)
 |ret
abbrev AK:=AEx→Fr→St→Prop
def AK.then(A:Fr→St→Prop)(K:AK):AK
 | .normal,fr,σ=>A fr σ
 |e,fr,σ=>K e fr σ
def AK.block(id:Nat)(K:AK):AK
 | .exit j,fr,σ=>if j=id then K .normal fr σ else K (.exit j) fr σ
 |e,fr,σ=>K e fr σ
def AK.noGoto(K:AK):AK
 | .goto _,_,_=>False
 |e,fr,σ=>K e fr σ
def Aii(body:AK→Fr→St→Prop)(K:AK)(fr:Fr)(σ:St):Prop:=
 ∃(I:Nat→Fr→St→Prop),(∃m,I m fr σ)∧∀m fr σ,I m fr σ→body (AK.then (fun fr' σ'=>∃m',m'<m∧I m' fr' σ') K) fr σ
def Yu(x:AV)(A B:Prop):Prop:=
 match x with
 | .v (.bool b)=>aIf b A B
 |_=>False
def Sj(pend:Option Code)(K:AK)(fr:Fr)(σ:St):Prop:=
 match pend with
 |none=>K .normal fr σ
 |some .ret=>K .ret fr σ
 |some (.exit id)=>K (.exit id) fr σ
 |_=>False
def Nc(l:Nat)(K:AK)(fr:Fr)(σ:St):Prop:=
 match σ l with
 |some (.loop _ _ _ _ _ st pend)=>st≠.busy∧Sj pend K fr (σ.del l)
 |_=>False
def K7(P:Program)(g:AV)(ps:List Nat)(assign body:Code)(K:AK)(fr:Fr)(σ:St):Prop:=
 match g with
 | .v (.func (.func f) first captured)=>∀n l,σ l=none→(∀x o,σ x=some o→x≠l)→AT P f (first.toList.map .v++[.v (.func (.yield l) #[] #[])]++captured.toList.map .v) (σ.set l (.loop fr n ps assign body .ready none)) fun _ σ'=>Nc l K fr σ'
 |_=>False
def A7(P:Program):Code→AK→Fr→St→Prop
 | .skip,K,fr,σ=>K .normal fr σ
 | .region _ ops false,K,fr,σ=>M1 P (Ie ops) ops.toList (K .normal) fr σ
 | .region _ ops true,K,fr,σ=>U1 P ops (K .normal) fr σ
 | .seq x y,K,fr,σ=>A7 P x (AK.then (A7 P y K) K) fr σ
 | .cond c x y,K,fr,σ=>Yu (fr.ev c) (A7 P x K fr σ) (A7 P y K fr σ)
 | .block id x,K,fr,σ=>A7 P x (AK.block id K) fr σ
 | .loop x,K,fr,σ=>Aii (A7 P x) K fr σ
 | .exit id,K,fr,σ=>K (.exit id) fr σ
 | .scope x,K,fr,σ=>A7 P x (AK.noGoto K) fr σ
 | .ret,K,fr,σ=>K .ret fr σ
 | .label _,K,fr,σ=>K .normal fr σ
 | .rangeFunc g ps assign body,K,fr,σ=>K7 P (fr.ev g) ps.toList assign body K fr σ
 |_,_,_,_=>False
section
variable{P:Program}{n:Nat}
def Fz(P:Program)(B:Nat)(w:World)(σ:St):List Deferred→Prop
 | []=>True
 |d::ds=>((∃b,d.target= .collected b∧B≤b∧w.heap[b]? =some (.deferred (some []))∧σ b=none∧∀d'∈ds,d'.target≠.collected b)∨Ad3 P d)∧Fz P B w σ ds
theorem Fz.mono{B:Nat}{F F':Bl}{w w':World}{σ σ':St}(he:Ext F w σ F' w' σ'):∀{ds:List Deferred},Fz P B w σ ds→Fz P B w' σ' ds
 | [],_=>trivial
 |d::ds,⟨.inl ⟨b,h1,h2,h3,h4,h5⟩,h⟩=>by
  obtain⟨g1,g2,_⟩:=he.old b (Array.getElem?_eq_some_iff.1 h3).1 h4;exact⟨.inl ⟨b,h1,h2,g1.trans h3,g2,h5⟩,h.mono he⟩
 |d::ds,⟨.inr hi,h⟩=>⟨.inr hi,h.mono he⟩
theorem Fz.put{B:Nat}{w:World}{σ:St}{l:Nat}{o o':Obj}(hl:w.heap[l]? =some o)(ho:o≠.deferred (some [])):∀{ds:List Deferred},Fz P B w σ ds→Fz P B (w.putObj l o') (σ.del l) ds
 | [],_=>trivial
 |d::ds,⟨.inl ⟨b,h1,h2,h3,h4,h5⟩,h⟩=>by
  have hne:b≠l:=fun e=>by subst e;rw[hl]at h3;injection h3 with h3;exact ho h3
  exact⟨.inl ⟨b,h1,h2,(World.putObj_heap_other hne).trans h3,by simp[St.del,hne,h4],h5⟩,h.put hl ho⟩
 |d::ds,⟨.inr hi,h⟩=>⟨.inr hi,h.put hl ho⟩
theorem Fz.lt{B:Nat}{w:World}{σ:St}:∀{ds:List Deferred},Fz P B w σ ds→∀d∈ds,∀b,d.target= .collected b→b<w.heap.size
 | [],_,d,hd,_,_=>by cases hd
 |d0::ds,⟨h0,h⟩,d,hd,b',he=>by
  rcases List.mem_cons.1 hd with rfl|hd
  ·rcases h0 with⟨b,h1,h2,h3,h4,h5⟩|⟨fv,cap,f,args,h1,_⟩
   ·rw[h1]at he
    injection he with he;subst he;exact(Array.getElem?_eq_some_iff.1 h3).1
   ·rw[h1]at he;cases he
  ·exact h.lt d hd b' he
theorem Fz.app{B:Nat}{w:World}{σ:St}{ds:List Deferred}(h:Fz P B w σ ds):∀{l:List Deferred},(∀d∈l,Ad3 P d)→Fz P B w σ (l++ds)
 | [],_=>h
 |d::l,hl=>⟨.inr (hl d (by simp)),h.app fun d hd=>hl d (by simp[hd])⟩
theorem Ada(a:Act)(d:Option Nat)(x:Value):(a.put d x).defers=a.defers:=by cases d<;>rfl
theorem Bc.defers{F:Bl}{w:World}{n:Nat}{fr:Fr}{a:Act}(h:Bc F w n fr a)(l:List Deferred):Bc F w n fr {a with defers:=l}:=⟨h.size,h.slot⟩
def Now(P:Program)(F0:Bl)(w0:World)(σ0:St)(n B:Nat)(K:Fr→St→Prop)(a:Act)(w:World):Prop:=
 ∃F fr σ,Ext F0 w0 σ0 F w σ∧Rel F w σ∧Bc F w n fr a∧Fz P B w σ a.defers∧K fr σ
def NowE(P:Program)(F0:Bl)(w0:World)(σ0:St)(n B:Nat)(K:AK):Exit→Act→World→Prop
 | .normal,a,w=>Now P F0 w0 σ0 n B (K .normal) a w
 | .exit id,a,w=>Now P F0 w0 σ0 n B (K (.exit id)) a w
 | .goto l,a,w=>Now P F0 w0 σ0 n B (K (.goto l)) a w
 | .ret,a,w=>Now P F0 w0 σ0 n B (K .ret) a w
 |_,_,_=>False
theorem Aie{F:Bl}{w:World}{fr:Fr}{a:Act}{ops:Array Oper}{o:Oper}{A B:Prop}(hok:Gv n ops o=true)(hf:Bc F w n fr a)(h:aGd (Ie ops) fr o.guard A B):
  (Region.wanted o (yielded ops a.tmps)=true∧A)∨(Region.wanted o (yielded ops a.tmps)=false∧B):=by
 unfold aGd at h;cases hg:o.guard with
 |none=>rw[hg]at h;exact .inl ⟨by simp[Region.wanted,hg],h⟩
 |some q=>
  obtain⟨j,want⟩:=q;rw[hg]at h;simp only at h;have hds:(Ie ops).getD j none=(ops[j]?).bind (·.dst):=by
   simp only[Ie,List.getD_eq_getElem?_getD,List.getElem?_map,Array.getElem?_toList];cases ops[j]? <;>rfl
  cases hd:(ops[j]?).bind (·.dst)with
  |none=>rw[hds,hd]at h;exact h.elim
  |some d=>
   rw[hds,hd]at h;simp only at h;split at h
   ·rename_i b hb
    have hdn:d<n:=by
     simp only[Gv,Bool.and_eq_true,hg,hd]at hok;simpa using hok.2
    have hv:=hf.slot d hdn;rw[hb]at hv;have he:=hv.eq;have hlt:d<a.tmps.size:=by rw[hf.size];exact hdn
    have hy:yielded ops a.tmps j=some b:=by
     simp only[yielded,hd,Option.bind_some,Array.getElem?_eq_getElem hlt];have:a.tmps.getD d undef=a.tmps[d]:=by simp[hlt]
     rw[this]at he;rw[he]
    have hw:Region.wanted o (yielded ops a.tmps)=(b==want):=by
     simp[Region.wanted,hg,hy]
    rw[hw];cases b<;>cases want<;>simp[aIf]at h⊢ <;>exact h
   ·rename_i y hnb hb
    have hdn:d<n:=by
     simp only[Gv,Bool.and_eq_true,hg,hd]at hok;simpa using hok.2
    have hv:=hf.slot d hdn;rw[hb]at hv;have he:=hv.eq;have hlt:d<a.tmps.size:=by rw[hf.size];exact hdn
    have hy:yielded ops a.tmps j=none:=by
     simp only[yielded,hd,Option.bind_some,Array.getElem?_eq_getElem hlt];have:a.tmps.getD d undef=a.tmps[d]:=by simp[hlt]
     rw[this]at he;rw[he];cases y<;>first|rfl|exact absurd rfl (hnb _)
    exact .inr ⟨by simp[Region.wanted,hg,hy],h⟩
   ·exact h.elim
theorem Ia(ro:Option Nat)(B:Nat)(ops:Array Oper)(hro:ro=none∨∀o∈ops.toList,Ph o.op=true)(hok:∀o∈ops.toList,Gv n ops o=true):∀(l:List Nat) (K:Fr→St→Prop) (fr:Fr) (σ:St),Jl P ops l K fr σ→∀F w a (Q:Exit→Act→World→Prop),Rel F w σ→Bc F w n fr a→Fz P B w σ a.defers→
  (∀a' w',Now P F w σ n B K a' w'→Q .normal a' w')→wpOpsIn (wd ro) 0 P ops Q l a w
 | [],K,fr,σ,h,F,w,a,Q,hs,hf,hm,hk=>hk a w ⟨F,fr,σ,.refl F w σ,hs,hf,hm,h⟩
 |i::r,K,fr,σ,h,F,w,a,Q,hs,hf,hm,hk=>by
  unfold wpOpsIn;simp only[Jl]at h;cases hi:ops[i]? with
  |none=>
   rw[hi]at h;exact Ia ro B ops hro hok r K fr σ h F w a Q hs hf hm hk
  |some o=>
   rw[hi]at h;simp only at h⊢;have hoo:Gv n ops o=true:=hok o (by have:=Array.mem_of_getElem? hi;simpa using this);rcases Aie hoo hf h with⟨hw,h⟩|⟨hw,h⟩
   ·rw[if_pos hw]
    refine Ago hoo hf hs h ro _ Q (hro.imp_right fun h=>h o (by have:=Array.mem_of_getElem? hi;simpa using this)) fun F' w' x v σ' ds h1 h2 h3 h4 h5=>?_;exact Ia ro B ops hro hok r K _ σ' h4 F' w' _ Q h2 (((hf.mono h1.keeps).put o.dst (T3 hoo) h3).defers _) ((hm.mono h1).app h5) fun a'' w'' ⟨F'',fr'',σ'',g1,g2,g3,g4,g5⟩=>hk a'' w'' ⟨F'',fr'',σ'',h1.trans g1,g2,g3,g4,g5⟩
   ·rw[if_neg (by simp[hw])]
    exact⟨fun _ _=>trivial,Ia ro B ops hro hok r K _ σ h F w _ Q hs (hf.put o.dst (T3 hoo) (.v undef)) (by rw[Ada];exact hm) hk⟩
theorem Yx(ops:Array Oper):∀(l:List Oper) (k:Nat),(∀j,l[j]? =ops[k+j]?)→Jl P ops (List.range' k l.length)=M1 P (Ie ops) l
 | [],k,_=>rfl
 |o::l,k,hl=>by
  have h0:ops[k]? =some o:=by simpa using(hl 0).symm
  have ih:=Yx ops l (k+1) (fun j=>by have:=hl (j+1);simpa[Nat.add_assoc,Nat.add_comm 1 j]using this);funext K fr σ;simp only[List.length_cons,List.range'_succ,Jl,h0,M1,ih]
theorem X3(ro:Option Nat)(B:Nat){id:Nat}{ops:Array Oper}{d:Bool}(hro:ro=none∨Qq (.region id ops d)=true)(hok:ops.all (Gv n ops)=true){K:AK}{F:Bl}{w:World}{fr:Fr}{σ:St}{a:Act}(hs:Rel F w σ)(hf:Bc F w n fr a)(hm:Fz P B w σ a.defers)
  (h:A7 P (.region id ops d) K fr σ):(Code.region id ops d).wpIn (wd ro) 0 P (NowE P F w σ n B K) a w:=by
 have hok':∀o∈ops.toList,Gv n ops o=true:=fun o ho=>Array.all_eq_true_iff_forall_mem.1 hok o (by simpa using ho);have hro':ro=none∨∀o∈ops.toList,Ph o.op=true:=hro.imp_right fun h=>List.all_eq_true.1 h;cases d with
 |false=>
  refine wpIn_region ?_;simp only[A7]at h;have e:=Yx (P:=P) ops ops.toList 0 (by simp);rw[←List.range_eq_range',Array.length_toList]at e;rw[←e]at h;exact Ia ro B ops hro' hok' _ _ fr σ h F w a _ hs hf hm fun a' w' h=>h
 |true=>
  refine wpIn_region_draw fun t=>?_;have hkp:=B9.drew F w;have he:Ext F w σ F w.drew σ:=Ext.drew (.refl F w σ);refine Ia ro B ops hro' hok' _ _ fr σ (h t) F w.drew a _ hs.drew (hf.mono hkp) (hm.mono he) fun a' w' ⟨F',fr',σ',g1,g2,g3,g4,g5⟩=>?_;exact⟨F',fr',σ',he.trans g1,g2,g3,g4,g5⟩
theorem Pi{B:Nat}{F0 F:Bl}{w0 w:World}{σ0 σ:St}{K K':Fr→St→Prop}(he:Ext F0 w0 σ0 F w σ)(hk:∀fr σ,K fr σ→K' fr σ){a:Act}{w':World}(h:Now P F w σ n B K a w'):Now P F0 w0 σ0 n B K' a w':=by
 obtain⟨F',fr',σ',g1,g2,g3,g4,g5⟩:=h;exact⟨F',fr',σ',he.trans g1,g2,g3,g4,hk _ _ g5⟩
theorem Ahm{B:Nat}{F0 F:Bl}{w0 w:World}{σ0 σ:St}{K:AK}(he:Ext F0 w0 σ0 F w σ){e:Exit}{a:Act}{w':World}(h:NowE P F w σ n B K e a w'):NowE P F0 w0 σ0 n B K e a w':=by
 cases e<;>first|exact Pi he (fun _ _ h=>h) h|exact h
theorem Aq2(p:Nat→Prop)(h:∃m,p m):∃m,p m∧∀m',p m'→m≤m':=by
 obtain⟨m,hm⟩:=h
 induction m using Nat.strongRecOn with
 |_ m ih=>
  by_cases hx:∃m',m'<m∧p m'
  ·obtain⟨m',h1,h2⟩:=hx
   exact ih m' h1 h2
  ·refine⟨m,hm,fun m' h'=>?_⟩
   rcases Nat.lt_or_ge m' m with h1|h1
   ·exact absurd ⟨m',h1,h'⟩ hx
   ·exact h1
theorem Adz{fe:Fence}{c:Code}{Q:Exit→Act→World→Prop}{a:Act}{w:World}(I:Nat→Act→World→Prop)(h₀:∃m,I m a w)(round:∀m a w,I m a w→c.wpIn fe 0 P (Exit.then (fun a' w'=>∃m',m'<m∧I m' a' w') Q) a w):(Code.loop c).wpIn fe 0 P Q a w:=by
 classical
 let μ:Act→World→Nat:=fun a w=>if h:∃m,I m a w then Classical.choose (Aq2 _ h)else 0
 have hμ:∀a w,(∃m,I m a w)→I (μ a w) a w∧∀m',I m' a w→μ a w≤m':=fun a w h=>by
  have:=Classical.choose_spec (Aq2 _ h);simp only[μ,dif_pos h];exact this
 refine wpIn_loop (fun a w=>∃m,I m a w) μ h₀ fun a w hI=>?_;obtain⟨h1,h2⟩:=hμ a w hI;refine wpIn_mono (round _ a w h1) fun e a' w' hq=>?_;cases e with
 |normal=>
  obtain⟨m',hm,hI'⟩:=hq;exact⟨⟨m',hI'⟩,Nat.lt_of_le_of_lt ((hμ a' w' ⟨m',hI'⟩).2 m' hI') hm⟩
 |_=>exact hq
theorem Pp{F:Bl}{w:World}{b:Nat}{o o':Obj}(hb:w.heap[b]? =some o)(h1:∀c e m,o≠.cells c e m)(h2:∀c e m,o'≠.cells c e m):B9 F w F (w.putObj b o'):=
 ⟨fun _=>Nat.le_refl _,fun x off _=>by
  by_cases hx:x=b
  ·subst hx
   have e1:(w.putObj x o').heap[x]? =some o':=World.putObj_heap_same (Array.getElem?_eq_some_iff.1 hb).1;simp only[World.cell?,hb,e1];have k:∀(o:Obj),(∀c e m,o≠.cells c e m)→(match some o with|some (.cells c _ _)=>(if(none:Option Nat).isSome then none else c[off]?)|_=>none)=(none:Option Value):=fun o h=>by
    cases o with
    |cells c e m=>exact absurd rfl (h c e m)
    |_=>rfl
   exact(k o' h2).trans (k o h1).symm
  ·simp only[World.cell?,World.putObj_heap_other hx]⟩
theorem Af4{F0 F:Bl}{w0 w:World}{σ0 σ:St}(he:Ext F0 w0 σ0 F w σ)(hs:Rel F w σ){b:Nat}{o o':Obj}(hb:w.heap[b]? =some o)(h1:∀c e m,o≠.cells c e m)(h2:∀c e m,o'≠.cells c e m)(hn:σ b=none)(hB:w0.heap.size≤b):
  Ext F0 w0 σ0 F (w.putObj b o') σ∧Rel F (w.putObj b o') σ:=by
 have hk:=Pp (F:=F) hb h1 h2;refine⟨⟨he.keeps.trans hk,he.os,he.tape,he.output,by rw[World.putObj_size];exact he.size,fun x hx hxn=>?_⟩,⟨fun x t hx=>?_,fun x hx=>hs.lt x (by rw[World.putObj_size]at hx;exact hx)⟩⟩
 ·obtain⟨g1,g2,g3⟩:=he.old x hx hxn
  exact⟨(World.putObj_heap_other (by omega)).trans g1,g2,g3⟩
 ·have hne:x≠b:=fun e=>by subst e;rw[hn]at hx;cases hx
  exact(hs.obj x t hx).mono hk (World.putObj_heap_other hne) rfl
theorem Cv(ro:Option Nat)(B:Nat):∀(c:Code),(ro=none∨Qq c=true)→Eu n c=true→∀(K:AK) (fr:Fr) (σ:St),A7 P c K fr σ→∀F w a,Rel F w σ→Bc F w n fr a→Fz P B w σ a.defers→B≤w.heap.size→c.wpIn (wd ro) 0 P (NowE P F w σ n B K) a w
 | .skip,_,_,K,fr,σ,h,F,w,a,hs,hf,hm,hB=>wpIn_skip ⟨F,fr,σ,.refl F w σ,hs,hf,hm,h⟩
 | .label _,_,_,K,fr,σ,h,F,w,a,hs,hf,hm,hB=>wpIn_label ⟨F,fr,σ,.refl F w σ,hs,hf,hm,h⟩
 | .exit _,_,_,K,fr,σ,h,F,w,a,hs,hf,hm,hB=>wpIn_exit ⟨F,fr,σ,.refl F w σ,hs,hf,hm,h⟩
 | .ret,_,_,K,fr,σ,h,F,w,a,hs,hf,hm,hB=>wpIn_ret ⟨F,fr,σ,.refl F w σ,hs,hf,hm,h⟩
 | .region _ ops d,hro,hok,K,fr,σ,h,F,w,a,hs,hf,hm,hB=>X3 ro B hro hok hs hf hm h
 | .seq x y,hfl,hok,K,fr,σ,h,F,w,a,hs,hf,hm,hB=>by
  simp only[Eu,Bool.and_eq_true]at hok;simp only[Qq,Bool.and_eq_true]at hfl;refine wpIn_seq (wpIn_mono (Cv ro B x (hfl.imp_right And.left) hok.1 _ fr σ h F w a hs hf hm hB) fun e a' w' hq=>?_);cases e with
  |normal=>
   obtain⟨F',fr',σ',g1,g2,g3,g4,g5⟩:=hq;exact wpIn_mono (Cv ro B y (hfl.imp_right And.right) hok.2 K fr' σ' g5 F' w' a' g2 g3 g4 (Nat.le_trans hB g1.size)) fun e a'' w'' h=>Ahm g1 h
  |exit id=>exact hq
  |goto l=>exact hq
  |ret=>exact hq
  |panic _=>exact hq
  |outgrown=>exact hq
 | .cond c x y,hfl,hok,K,fr,σ,h,F,w,a,hs,hf,hm,hB=>by
  simp only[Eu,Bool.and_eq_true]at hok;simp only[Qq,Bool.and_eq_true]at hfl;simp only[A7]at h;have hv:=hf.ev c hok.1.1;revert h hv;generalize fr.ev c=q;intro h hv;unfold Yu at h;split at h
  ·rename_i b
   have e:=hv.eq;cases b with
   |true=>exact wpIn_cond_true e (Cv ro B x (hfl.imp_right And.left) hok.1.2 K fr σ (by simpa[aIf]using h) F w a hs hf hm hB)
   |false=>exact wpIn_cond_false e (Cv ro B y (hfl.imp_right And.right) hok.2 K fr σ (by simpa[aIf]using h) F w a hs hf hm hB)
  ·exact h.elim
 | .block id x,hfl,hok,K,fr,σ,h,F,w,a,hs,hf,hm,hB=>by
  refine wpIn_block (wpIn_mono (Cv ro B x hfl hok _ fr σ h F w a hs hf hm hB) fun e a' w' hq=>?_);cases e with
  |exit j=>
   obtain⟨F',fr',σ',g1,g2,g3,g4,g5⟩:=hq;simp only[AK.block]at g5;simp only[Exit.inBlock];split
   ·rename_i hj;rw[if_pos hj]at g5;exact⟨F',fr',σ',g1,g2,g3,g4,g5⟩
   ·rename_i hj;rw[if_neg hj]at g5;exact⟨F',fr',σ',g1,g2,g3,g4,g5⟩
  |normal=>exact hq
  |goto l=>exact hq
  |ret=>exact hq
  |panic _=>exact hq
  |outgrown=>exact hq
 | .scope x,hfl,hok,K,fr,σ,h,F,w,a,hs,hf,hm,hB=>by
  rcases hfl with rfl|hfl
  ·refine(wpIn_wide (n:=0)).2 (wp_scope_straight ((wpIn_wide (n:=0)).1 (wpIn_mono (Cv none B x (.inl rfl) hok _ fr σ h F w a hs hf hm hB) fun e a' w' hq=>?_)))
   cases e with
   |goto l=>obtain⟨F',fr',σ',g1,g2,g3,g4,g5⟩:=hq;exact g5.elim
   |normal=>exact hq
   |exit j=>exact hq
   |ret=>exact hq
   |panic _=>exact hq
   |outgrown=>exact hq
  ·cases hfl
 | .loop x,hfl,hok,K,fr,σ,h,F,w,a,hs,hf,hm,hB=>by
  obtain⟨I,⟨m,h0⟩,hr⟩:=h;refine Adz (fun m a' w'=>∃F' fr' σ',Ext F w σ F' w' σ'∧Rel F' w' σ'∧Bc F' w' n fr' a'∧Fz P B w' σ' a'.defers∧I m fr' σ') ⟨m,F,fr,σ,.refl F w σ,hs,hf,hm,h0⟩ fun m a' w' ⟨F',fr',σ',g1,g2,g3,g4,g5⟩=>?_;refine wpIn_mono (Cv ro B x hfl hok _ fr' σ' (hr m fr' σ' g5) F' w' a' g2 g3 g4 (Nat.le_trans hB g1.size)) fun e a'' w'' hq=>?_;cases e with
  |normal=>
   obtain⟨F'',fr'',σ'',k1,k2,k3,k4,m',hm,hI⟩:=hq;exact⟨m',hm,F'',fr'',σ'',g1.trans k1,k2,k3,k4,hI⟩
  |exit id=>exact Pi g1 (fun _ _ h=>h) hq
  |goto l=>exact Pi g1 (fun _ _ h=>h) hq
  |ret=>exact Pi g1 (fun _ _ h=>h) hq
  |panic _=>exact hq
  |outgrown=>exact hq
 | .rangeFunc g ps assign body,hfl,hok,K,fr,σ,h,F,w,a,hs,hf,hm,hB=>by
  rcases hfl with rfl|hfl
  ·simp only[Eu,Bool.and_eq_true]at hok
   obtain⟨⟨⟨ok1,ok2⟩,ok3⟩,ok4⟩:=hok;have hgv:=hf.ev g ok1;simp only[A7,K7]at h;split at h
   case h_2=>exact h.elim
   rename_i f first captured hgq;rw[hgq]at hgv;refine wpIn_rangeFunc fun fn _=>?_
   let w1:=w.alloc (.deferred (some []))
   let rec0:Loop:={state:=.ready,pending:=none,fn,tmps:=a.tmps,params:=ps,assign,body,defers:=w.heap.size}
   let w2:=w1.alloc (.loop rec0)
   have hsz1:w1.heap.size=w.heap.size+1:=by simp[w1]
   have e1:Ext F w σ F w1 σ:=⟨B9.alloc hs _,rfl,rfl,rfl,by omega,fun b hb hn=>⟨Below.heap_alloc w _ b hb,hn,rfl⟩⟩;have r1:Rel F w1 σ:=⟨fun b o hb=>(hs.obj b o hb).mono (B9.alloc hs _) (Below.heap_alloc w _ b (hs.lt_size hb)) rfl,fun b hb=>hs.lt b (by omega)⟩;have hln:σ w1.heap.size=none:=Cc r1 (Nat.le_refl _);have hd0:w1.heap[w.heap.size]? =some (.deferred (some [])):=heap_alloc_new w _;have hdn:σ w.heap.size=none:=Cc hs (Nat.le_refl _);have hhold:Holds F w2 w1.heap.size (.loop fr n ps.toList assign body .ready none):=
    ⟨rec0,heap_alloc_new w1 _,r1.lt _ (Nat.le_refl _),rfl,rfl,rfl,rfl,rfl,hf.size,⟨ok3,ok4,fun t ht=>by have:=Array.all_eq_true_iff_forall_mem.1 ok2 t (by simpa using ht);simpa using this⟩,fun t ht=>((hf.slot t ht).mono e1.keeps).mono (B9.alloc r1 _)⟩
   obtain⟨r2,e2⟩:=H4 r1 (.loop rec0) _ hhold;have e12:=e1.trans e2;have hm':Fz P B w2 (σ.set w1.heap.size (.loop fr n ps.toList assign body .ready none)) ([{target:=Target.collected w.heap.size,args:=#[]}]++a.defers):=by
    refine⟨.inl ⟨w.heap.size,rfl,hB,?_,?_,?_⟩,hm.mono e12⟩
    ·exact(Below.heap_alloc w1 _ w.heap.size (by omega)).trans hd0
    ·simp only[St.set];rw[if_neg (by omega)];exact hdn
    ·intro d' hd' he
     have:=hm.lt d' hd' _ he;omega
   have hcall:=h n w1.heap.size hln (fun x o hx e=>by subst e;rw[hln]at hx;cases hx);have hent:=run_enterLoop_outer (P:=P) (w:=w) fn a.tmps ps assign body;rw[show w.heap.size+1=w1.heap.size from hsz1.symm]at hent;rcases hcall with⟨hc,hcall⟩|⟨_,hcl⟩
   ·have hge:=hgv.eq
    obtain⟨yv,hyv⟩:∃yv:Value,yv= .func (.yield w1.heap.size) #[] #[]:=⟨_,rfl⟩;rw[←hyv]at hcall;have hargs:RVs F w2 (first.toList.map .v++[.v yv]++captured.toList.map .v) (first.toList++[yv]++captured.toList):=
     ((RVs.ofVals F w2 _).append (RVs.ofVals F w2 [yv])).append (RVs.ofVals F w2 _)
    have hcf:(callFunc f (first++#[yv]++captured)).run P w2= .ok (.enter f (first++#[yv]++captured)) w2:=by
     unfold Oa at hc;split at hc
     ·rename_i fn hfn
      simp only[Bool.and_eq_true]at hc;have k1:¬fn.name= "runtime.NumGoroutine" :=by
       have:=hc.2;simpa[bne]using this
      have k2:¬fn.body=none:=by intro e;simp[e]at hc
      simp[callFunc,hfn,k1,k2]
     ·cases hc
    refine⟨w1.heap.size,[{target:=.collected w.heap.size,args:=#[]}],w2,{target:=.fn (.func f) captured,args:=first++#[yv]},w2,f,first++#[yv]++captured,w2,hent,?_,fun _ _=>trivial,hcf,(fun h=>by cases h),?_⟩
    ·simp only[resolve,hge,Deferred.ofValue,Sem.run_bind,Sem.run_pure,Result.andThen_ok]
     rw[hyv];simp[Act.eval]
    ·have hcl:=hcall F w2 _ r2 hargs
     rw[show(first.toList++[yv]++captured.toList).toArray=first++#[yv]++captured by apply Array.ext';simp]at hcl;refine(callsIn_wide (n:=0)).2 (hcl.mono ?_);rintro e w3 ⟨x,F',σ',r,rfl,k1,k2,k3,k4⟩;unfold Nc at k4;split at k4
     ·rename_i fr' n' ps' as' bo' st pend hl
      obtain⟨hst,hpe⟩:=k4;obtain⟨r,q1,q2,q3,q4,q5,q6,q7,q8,q9,q10⟩:=k2.obj _ _ hl;have hb:r.state≠.busy:=by rw[q6];exact hst
      have hrun:=run_endLoop (P:=P) q1 hb;have e3:Ext F w σ F' w3 (σ'.del w1.heap.size):=(e12.trans k1).trans (Ext.del F' w3 σ' _);obtain⟨e4,r4⟩:=Af4 (o':=.loop {r with state:=.exhausted}) e3 (k2.del _) q1 (fun _ _ _ h=>by cases h) (fun _ _ _ h=>by cases h) (by simp[St.del]) (by omega);have m4:=(hm'.mono k1).put (o':=.loop {r with state:=.exhausted}) q1 (fun h=>by cases h);have f4:Bc F' (w3.putObj w1.heap.size (.loop {r with state:=.exhausted})) n fr {a with defers:=[{target:=Target.collected w.heap.size,args:=#[]}]++a.defers}:=⟨hf.size,fun t ht=>(hf.slot t ht).mono e4.keeps⟩;revert hrun e4 r4 m4 f4;generalize w3.putObj w1.heap.size (.loop {r with state:=.exhausted})=w4;intro hrun e4 r4 m4 f4;rw[q7]at hrun;refine⟨pend,w4,hrun,?_⟩;unfold Sj at hpe;split at hpe
      ·exact⟨F',fr,_,e4,r4,f4,m4,hpe⟩
      ·exact wpIn_ret ⟨F',fr,_,e4,r4,f4,m4,hpe⟩
      ·exact wpIn_exit ⟨F',fr,_,e4,r4,f4,m4,hpe⟩
      ·exact hpe.elim
     ·exact k4.elim
   ·rcases hcl with⟨_,hcl⟩|⟨_,hcl⟩
    rotate_left
    ·have hargs:RVs F w2 (first.toList.map .v++[.v (.func (.yield w1.heap.size) #[] #[])]++captured.toList.map .v) (first.toList++[.func (.yield w1.heap.size) #[] #[]]++captured.toList):=
      ((RVs.ofVals F w2 _).append (RVs.ofVals F w2 [_])).append (RVs.ofVals F w2 _)
     obtain⟨hsl,_⟩:=hcl F w2 _ r2 hargs;obtain⟨_,_,_,hx⟩:=hsl (.func (.yield w1.heap.size) #[] #[]) (by simp);cases hx
    unfold Nf at hcl;split at hcl
    ·rename_i t r heq
     have:AV.v (.func (.yield w1.heap.size) #[] #[])∈(first.toList.map AV.v++[.v (.func (.yield w1.heap.size) #[] #[])]++captured.toList.map AV.v):=by simp
     rw[heq]at this;simp at this
    ·exact hcl.elim
  ·cases hfl
 | .goto _,_,_,K,fr,σ,h,F,w,a,hs,hf,hm,hB=>h.elim
 | .refuse _,_,_,K,fr,σ,h,F,w,a,hs,hf,hm,hB=>h.elim
end
def I6(args:List AV):Fr:=fun t=>args.getD t (.v undef)
def Wh:ResultVar→Nat
 | .tmp t=>t
 | .cell t _=>t
def Yy(i:Option TK)(σ:St)(p:AV):Option AV:=
 match i with
 |some i=>match p with
  | .v (.pointer (some ⟨b,0,none⟩))=>match σ b with
   |some (.cells cs)=>if i.ag then(if i.sz≤cs.length then some (.agg (cs.take i.sz))else none)else(if 0<cs.length then some (cs.getD 0 (.v undef))else none)
   |_=>none
  |_=>none
 |none=>none
def Sk(P:Program)(fr:Fr)(σ:St):ResultVar→Option AV
 | .tmp t=>some (fr t)
 | .cell b t=>Yy (tk P t) σ (fr b)
def Rh(P:Program)(fr:Fr)(σ:St):List ResultVar→Option (List AV)
 | []=>some []
 |q::l=>match Sk P fr σ q with
  |some x=>match Rh P fr σ l with
   |some xs=>some (x::xs)
   |none=>none
  |none=>none
def oneR:List AV→AV
 | [x]=>x
 |l=>.tup l
def A9(P:Program)(fr:Fr)(σ:St)(l:List ResultVar):Option AV:=
 match Rh P fr σ l with
 |some l=>some (oneR l)
 |none=>none
def Hf(σ:St)(r:AV)(σ':St)(r':AV):Prop:=
 ∀F w x,Rel F w σ→RV F w r x→∃F',Ext F w σ F' w σ'∧Rel F' w σ'∧RV F' w r' x
theorem Hf.refl(σ:St)(r:AV):Hf σ r σ r:=fun F w x hs hv=>⟨F,.refl F w σ,hs,hv⟩
def Dw(P:Program)(Q:AV→St→Prop)(res:List ResultVar)(fr:Fr)(σ:St):Prop:=
 ∃r,A9 P fr σ res=some r∧∃r' σ',Hf σ r σ' r'∧Q r' σ'
def AK.fn(P:Program)(Q:AV→St→Prop)(res:List ResultVar):AK
 | .normal,fr,σ=>Dw P Q res fr σ
 | .ret,fr,σ=>Dw P Q res fr σ
 |_,_,_=>False
def Aq6:List Value→Value
 | [x]=>x
 |l=>.tuple l.toArray
theorem Alb(l:List Value):(if h:l.toArray.size=1 then l.toArray[0]else .tuple l.toArray)=Aq6 l:=by
 match l with
 | []=>rfl
 | [x]=>rfl
 |x::y::r=>rw[dif_neg (by simp)];rfl
theorem Apm{F:Bl}{w:World}{n:Nat}{fr:Fr}{a:Act}{P:Program}{σ:St}(hs:Rel F w σ)(hf:Bc F w n fr a){q:ResultVar}(hn:Wh q<n){r:AV}(h:Sk P fr σ q=some r):
  ∃x,(match q with
    |ResultVar.tmp t=>(pure (a.tmps.getD t undef):Sem Value)
    |ResultVar.cell b t=>do loadVar t (←asAddr (a.tmps.getD b undef))).run P w= .ok x w∧RV F w r x:=by
 cases q with
 |tmp t=>
  injection h with h;subst h;exact⟨_,rfl,hf.slot t hn⟩
 |cell b t=>
  simp only[Sk]at h;have hv:=hf.slot b hn;cases ht:tk P t with
  |none=>rw[ht]at h;cases h
  |some i=>
   rw[ht]at h;unfold Yy at h;simp only at h;split at h
   ·rename_i b' hfr
    rw[hfr]at hv;have e:=hv.eq;split at h
    ·rename_i cs hb
     obtain⟨c,e',m,g1,g2,g3,g4,g4',g5⟩:=hs.obj b' _ hb;have hcell:∀j,j<cs.length→w.cell? ⟨b',0+j,none⟩=some (c.getD j undef):=fun j hj=>by
      simp[World.cell?,g1,Array.getD_eq_getD_getElem?,g2,hj]
     have hag:i.ag=true→0+i.sz≤cs.length:=fun hg=>by
      rw[if_pos hg]at h;split at h
      ·omega
      ·cases h
     have hna:i.ag=false→0<cs.length:=fun hg=>by
      rw[if_neg (by simp[hg])]at h;split at h
      ·assumption
      ·cases h
     obtain⟨y,hy,hyv⟩:=Ja ht (o:=0) hcell g5 hag hna;refine⟨y,?_,?_⟩
     ·simp only[e]
      simpa[Instr.loadAt,Instr.sureAddr,asAddr]using hy
     ·cases hg:i.ag with
      |true=>
       rw[if_pos hg]at h;rw[hg,if_pos rfl]at hyv;split at h
       ·injection h with h;subst h;simpa using hyv
       ·cases h
      |false=>
       rw[if_neg (by simp[hg])]at h;rw[hg,if_neg (by simp)]at hyv;split at h
       ·injection h with h;subst h;exact hyv
       ·cases h
    ·cases h
   ·cases h
theorem Afw{F:Bl}{w:World}{n:Nat}{fr:Fr}{a:Act}{P:Program}{σ:St}(hs:Rel F w σ)(hf:Bc F w n fr a):∀(l:List ResultVar),(∀q∈l,Wh q<n)→∀rs,Rh P fr σ l=some rs→
  ∃xs,Sem.run P (l.mapM fun
    |ResultVar.tmp t=>(pure (a.tmps.getD t undef):Sem Value)
    |ResultVar.cell b t=>do loadVar t (←asAddr (a.tmps.getD b undef))) w= .ok xs w∧RVs F w rs xs
 | [],_,rs,h=>by
  injection h with h;subst h;exact⟨[],by simp,rfl,fun j hj=>by simp at hj⟩
 |q::l,hn,rs,h=>by
  simp only[Rh]at h;split at h
  ·rename_i x hx
   split at h
   ·rename_i xs hxs
    injection h with h;subst h;obtain⟨y,hy,hyv⟩:=Apm hs hf (hn q (by simp)) hx;obtain⟨ys,hys,hysv⟩:=Afw hs hf l (fun q hq=>hn q (by simp[hq])) xs hxs;refine⟨y::ys,?_,by simp[hysv.1],fun j hj=>?_⟩
    ·simp only[List.mapM_cons,Sem.run_bind,hy,Result.andThen_ok,hys,Sem.run_pure]
    ·cases j with
     |zero=>simpa using hyv
     |succ j=>simpa using hysv.2 j (by simpa using hj)
   ·cases h
  ·cases h
theorem Ade{F:Bl}{w:World}{n:Nat}{fr:Fr}{a:Act}{P:Program}{fn:Func}{σ:St}(hs:Rel F w σ)(hf:Bc F w n fr a)(hn:∀q∈fn.results.toList,Wh q<n){r:AV}(h:A9 P fr σ fn.results.toList=some r):
  ∃x,(results fn a.tmps).run P w= .ok x w∧RV F w r x:=by
 unfold A9 at h;split at h
 ·rename_i rs hrs
  injection h with h;subst h;obtain⟨xs,hx,hv⟩:=Afw hs hf _ hn rs hrs;refine⟨Aq6 xs,?_,?_⟩
  ·unfold results
   rw[Array.mapM_eq_mapM_toList,map_eq_pure_bind,Sem.run_bind,Sem.run_bind];refine(congrArg (fun q=>Result.andThen (Result.andThen q _) _) hx).trans ?_;simp only[Result.andThen_ok,Sem.run_pure,Alb]
  ·match rs,xs,hv with
   | [],[],hv=>exact .tup _ _ (by simp) (fun j hj=>by simp at hj)
   | [r],[x],hv=>exact hv.2 0 (by simp)
   |r::r'::rs,x::x'::xs,hv=>exact .tup _ _ (by simpa using hv.1) (fun j hj=>by simpa using hv.2 j hj)
   | [],_::_,hv=>exact absurd hv.1 (by simp)
   | [_],[],hv=>exact absurd hv.1 (by simp)
   | [_],_::_::_,hv=>exact absurd hv.1 (by simp)
   |_::_::_,[],hv=>exact absurd hv.1 (by simp)
   |_::_::_,[_],hv=>exact absurd hv.1 (by simp)
 ·cases h
theorem AT.of_body{P:Program}{f:FuncId}{fn:Func}{c:Code}{args:List AV}{σ:St}{Q:AV→St→Prop}(hf:P.funcs[f]? =some fn)(hb:fn.body=some c)(hname:fn.name≠ "runtime.NumGoroutine")
  (hok:Eu fn.ntmps c=true) (hres:fn.results.toList.all (fun q=>decide (Wh q<fn.ntmps))=true) (hargs:args.length≤fn.ntmps) (h:A7 P c (AK.fn P Q fn.results.toList) (I6 args) σ):AT P f args σ Q:=by
 refine .inl ⟨by simp[Oa,hf,hb,hname],fun F w vs hs hv=>?_⟩;refine callsIn_wide.1 (callsIn_of_wp_marks (n:=0) hf hb trivial ?_);have hfr:Bc F w fn.ntmps (I6 args) {tmps:=vs.toArray++Array.replicate (fn.ntmps-vs.toArray.size) undef,defers:=[]}:=by
  refine⟨by simp;have:=hv.1;omega,fun t ht=>?_⟩;by_cases hlt:t<args.length
  ·have:=hv.2 t hlt
   have e:(vs.toArray++Array.replicate (fn.ntmps-vs.toArray.size) undef).getD t undef=vs.getD t undef:=by
    simp only[Array.getD_eq_getD_getElem?,List.getD_eq_getElem?_getD];rw[Array.getElem?_append_left (by simp;rw[hv.1];exact hlt)];simp
   show RV F w (args.getD t (.v undef)) _;rw[e];exact this
  ·have e:(vs.toArray++Array.replicate (fn.ntmps-vs.toArray.size) undef).getD t undef=undef:=by
    simp only[Array.getD_eq_getD_getElem?];rw[Array.getElem?_append_right (by simp;rw[hv.1];omega)];simp only[Array.getElem?_replicate];split<;>rfl
   have e2:I6 args t= .v undef:=by
    unfold I6;rw[List.getD_eq_getElem?_getD,List.getElem?_eq_none (by omega)];rfl
   rw[e,e2];exact .v _
 refine wpIn_mono (Cv none w.heap.size c (.inl rfl) hok _ _ σ h F w _ hs hfr trivial (Nat.le_refl _)) fun e a' w' hq=>?_
 have fin:∀(ds:List Deferred) (K:Fr→St→Prop) (w':World) (tmps:Array Value),(∃F' fr' σ',Ext F w σ F' w' σ'∧Rel F' w' σ'∧Bc F' w' fn.ntmps fr' {tmps,defers:=[]}∧Fz P w.heap.size w' σ' ds∧K fr' σ')→(∀fr σ',K fr σ'→Dw P Q fn.results.toList fr σ')→
   LeavesInM Fence.wide 0 P fn tmps (fun e w'=>∃x F' σ' r,e= .returned x∧Ext F w σ F' w' σ'∧Rel F' w' σ'∧RV F' w' r x∧Q r σ') ds .returning w':=by
  intro ds
  induction ds with
  |nil=>
   rintro K w' tmps ⟨F',fr',σ',g1,g2,g3,g4,g5⟩ hK;obtain⟨r,hr,r',σ'',hview,hq⟩:=hK _ _ g5
   obtain⟨x,hx,hxr⟩:=Ade (P:=P) g2 g3 (fun q hq=>by
    have:=List.all_eq_true.1 hres _ hq;simpa using this) hr
   obtain⟨F'',k1,k2,k3⟩:=hview F' w' x g2 hxr;exact⟨x,hx,x,F'',σ'',r',rfl,g1.trans k1,k2,k3,hq⟩
  |cons d ds ih=>
   rintro K w' tmps ⟨F',fr',σ',g1,g2,g3,⟨hd,g4⟩,g5⟩ hK;rcases hd with⟨b,h1,h2,h3,h4,h5⟩|⟨fv,cap,f,args,h1,h2,h3⟩
   rotate_left
   ·refine⟨by simp,.inr ⟨(fun h=>by cases h),fv,cap,f,args,h1,h2 w',fun _ _=>trivial,(h3 w').mono ?_⟩⟩
    rintro e u' w2 ⟨⟨v,rfl⟩,rfl,rfl⟩;exact ih K w2 tmps ⟨F',fr',σ',g1,g2,g3,g4,g5⟩ hK
   refine⟨by simp,.inl ⟨b,w'.putObj b (.deferred none),h1,run_takeDeferred h3,?_⟩⟩;obtain⟨e4,r4⟩:=Af4 (o':=.deferred none) g1 g2 h3 (fun _ _ _ h=>by cases h) (fun _ _ _ h=>by cases h) h4 h2;have hkk:=Pp (F:=F') (o':=.deferred none) h3 (fun _ _ _ h=>by cases h) (fun _ _ _ h=>by cases h);refine ih K _ tmps ⟨F',fr',σ',e4,r4,g3.mono hkk,?_,g5⟩ hK;clear ih
   induction ds with
   |nil=>trivial
   |cons d' ds ih2=>
    obtain⟨hd',k6⟩:=g4;refine⟨?_,ih2 k6 (fun d hd=>h5 d (by simp[hd]))⟩;rcases hd' with⟨b',k1,k2,k3,k4,k5⟩|hi
    ·have hne:b'≠b:=fun e=>by subst e;exact h5 d' (by simp) k1
     exact .inl ⟨b',k1,k2,(World.putObj_heap_other hne).trans k3,k4,k5⟩
    ·exact .inr hi
 have fin':∀K,Now P F w σ fn.ntmps w.heap.size K a' w'→(∀fr σ',K fr σ'→Dw P Q fn.results.toList fr σ')→LeavesInM Fence.wide 0 P fn a'.tmps (fun e w'=>∃x F' σ' r,e= .returned x∧Ext F w σ F' w' σ'∧Rel F' w' σ'∧RV F' w' r x∧Q r σ') a'.defers .returning w':=fun K ⟨F',fr',σ',g1,g2,g3,g4,g5⟩ hK=>
  fin a'.defers K w' a'.tmps ⟨F',fr',σ',g1,g2,⟨g3.size,g3.slot⟩,g4,g5⟩ hK
 cases e with
 |normal=>exact fin' _ hq fun _ _ h=>h
 |ret=>exact fin' _ hq fun _ _ h=>h
 |exit id=>obtain⟨_,_,_,_,_,_,_,h⟩:=hq;exact h.elim
 |goto l=>obtain⟨_,_,_,_,_,_,_,h⟩:=hq;exact h.elim
 |panic _=>exact hq.elim
 |outgrown=>exact hq.elim
theorem AT.ob{P:Program}{f:FuncId}{fn:Func}{c:Code}{args:List AV}{σ:St}{Q:AV→St→Prop}(hf:P.funcs[f]? =some fn)(hb:fn.body=some c)(h:A7 P c (AK.fn P Q fn.results.toList) (I6 args) σ)(hname:fn.name≠ "runtime.NumGoroutine" :=by decide)
  (hok:Eu fn.ntmps c=true:=by kernel_rfl) (hres:fn.results.toList.all (fun q=>decide (Wh q<fn.ntmps))=true:=by kernel_rfl) (hargs:args.length≤fn.ntmps:=by exact Nat.le_of_ble_eq_true rfl):AT P f args σ Q:=AT.of_body hf hb hname hok hres hargs h
def Pn(fr:Fr):List Nat→List AV→Fr
 |p::ps,a::as=>Pn (fr.up p a) ps as
 |_,_=>fr
def AK.round(l:Nat)(fr:Fr)(n:Nat)(ps:List Nat)(assign body:Code)(k:AV→St→Prop):AK
 | .normal,_,σ=>(∃p,σ l=some (.loop fr n ps assign body .busy p))∧k (.v (.bool true)) (σ.set l (.loop fr n ps assign body .ready none))
 | .ret,_,σ=>(∃p,σ l=some (.loop fr n ps assign body .busy p))∧k (.v (.bool false)) (σ.set l (.loop fr n ps assign body .done (some .ret)))
 | .exit id,_,σ=>(∃p,σ l=some (.loop fr n ps assign body .busy p))∧k (.v (.bool false)) (σ.set l (.loop fr n ps assign body .done (some (.exit id))))
 | .goto _,_,_=>False
def AK.begun(P:Program)(l:Nat)(fr:Fr)(n:Nat)(ps:List Nat)(assign body:Code)(k:AV→St→Prop):AK
 | .normal,fr1,σ1=>σ1 l=some (.loop fr n ps assign body .ready none)∧A7 P body (AK.round l fr n ps assign body k) fr1 (σ1.set l (.loop fr n ps assign body .busy none))
 |_,_,_=>False
theorem Aau{F:Bl}{w:World}:∀(ps:List Nat) (as:List AV) (vs:List Value) (fr:Fr) (tmps:Array Value),(∀t∈ps,t<tmps.size)→(∀t,t<tmps.size→RV F w (fr t) (tmps.getD t undef))→RVs F w as vs→
  ((ps.zip vs).foldl (fun tmps (q:Nat×Value)=>tmps.setIfInBounds q.1 q.2) tmps).size=tmps.size∧∀t,t<tmps.size→RV F w (Pn fr ps as t) (((ps.zip vs).foldl (fun tmps (q:Nat×Value)=>tmps.setIfInBounds q.1 q.2) tmps).getD t undef)
 | [],as,vs,fr,tmps,_,h,_=>by cases as<;>exact⟨rfl,h⟩
 |p::ps,[],vs,fr,tmps,_,h,hv=>by
  have:vs=[]:=List.eq_nil_of_length_eq_zero hv.1;subst this;exact⟨rfl,h⟩
 |p::ps,a::as,[],fr,tmps,_,h,hv=>absurd hv.1 (by simp)
 |p::ps,a::as,v::vs,fr,tmps,hp,h,hv=>by
  have hpt:=hp p (by simp);have hs:(tmps.setIfInBounds p v).size=tmps.size:=by simp
  have:=Aau ps as vs (fr.up p a) (tmps.setIfInBounds p v) (fun t ht=>by rw[hs];exact hp t (by simp[ht])) (fun t ht=>by
   rw[hs]at ht;simp only[Fr.up];by_cases htp:t=p
   ·subst htp
    rw[if_pos rfl];have h0:=hv.2 0 (by simp);simp[hpt];exact h0
   ·rw[if_neg htp]
    have:=h t ht;simp only[Array.getD_eq_getD_getElem?,Array.getElem?_setIfInBounds]at this⊢;rw[if_neg (by omega)];exact this) ⟨by simpa using hv.1,fun j hj=>by simpa using hv.2 (j+1) (by simpa using hj)⟩
  rw[hs]at this;exact this
theorem Abt{P:Program}{l n:Nat}{args:List AV}{σ:St}{k:AV→St→Prop}{fr:Fr}{ps:List Nat}{assign body:Code}{pend:Option Code}(hl:σ l=some (.loop fr n ps assign body .ready pend))(hn:args.length=ps.length)(hfl:(Qq assign&&Qq body)=true)
  (h:A7 P assign (AK.begun P l fr n ps assign body k) (Pn fr ps args) σ):YC P l args σ k:=by
 intro F w vs hs hv;simp only[Bool.and_eq_true]at hfl;obtain⟨r,q1,q2,q3,q4,q5,q6,q7,q8,⟨q9,q10,q11⟩,q12⟩:=hs.obj _ _ hl;have hlt:=hs.lt_size hl;have hpar:=Aau ps args vs fr r.tmps (fun t ht=>by rw[q8];exact q11 t ht) (fun t ht=>q12 t (by rw[←q8];exact ht)) hv
 refine⟨_,_,_,_,run_yield q1 (by
  have e1:r.params.size=ps.length:=by rw[←q3];simp
  have:=hv.1;simp only[List.size_toArray];omega),?_⟩
 have etm:((r.params.zip vs.toArray).foldl (fun tmps (q:Nat×Value)=>tmps.setIfInBounds q.1 q.2) r.tmps)=(ps.zip vs).foldl (fun tmps (q:Nat×Value)=>tmps.setIfInBounds q.1 q.2) r.tmps:=by
  rw[←q3,←Array.foldl_toList,Array.toList_zip]
 refine roundIn_of_wpIn trivial ?_;rw[q4,q5];have hfr:Bc F w n (Pn fr ps args) {tmps:=(r.params.zip vs.toArray).foldl (fun tmps (q:Nat×Value)=>tmps.setIfInBounds q.1 q.2) r.tmps,defers:=[]}:=
  ⟨by rw[etm];exact hpar.1.trans q8,fun t ht=>by rw[etm];exact hpar.2 t (by rw[q8];exact ht)⟩
 refine wpIn_mono (Cv (some l) 0 assign (.inr hfl.1) q9 _ _ σ h F w _ hs hfr trivial (Nat.zero_le _)) fun e a1 w1 hq=>?_;cases e with
 |normal=>
  obtain⟨F1,fr1,σ1,g1,g2,g3,g4,hl1,hb⟩:=hq;obtain⟨r1,k1,k2,k3,k4,k5,k6,k7,k8,k9,k10⟩:=g2.obj _ _ hl1;have hlt1:=g2.lt_size hl1;refine⟨_,run_beginRound k1 k6,?_⟩;obtain⟨rb,eb⟩:=Mr g2 hl1 k2 (.loop {r1 with state:=.busy}) (.loop fr n ps assign body .busy none) fun hk=>
   ⟨{r1 with state:=.busy},World.putObj_heap_same hlt1,k2,k3,k4,k5,rfl,k7,k8,k9,fun t ht=>(k10 t ht).mono hk⟩
  have end_ok:∀(jump:Option Code) (F2:Bl) (w2:World) (σ2:St) (fr2:Fr),Ext F1 {w1 with heap:=w1.heap.setIfInBounds l (.loop {r1 with state:=.busy})} (σ1.set l (.loop fr n ps assign body .busy none)) F2 w2 σ2→Rel F2 w2 σ2→(∃p,σ2 l=some (.loop fr n ps assign body .busy p))→
    k (.v (.bool jump.isNone)) (σ2.set l (.loop fr n ps assign body (if jump.isNone then .ready else .done) jump))→
    ∃v w',(Instr.endRound l jump).run P w2= .ok v w'∧∃x F' σ' r,Ending.returned v= .returned x∧Ext F w σ F' w' σ'∧Rel F' w' σ'∧RV F' w' r x∧k r σ':=by
   rintro jump F2 w2 σ2 fr2 e2 r2 ⟨p2,hl2⟩ hk2;obtain⟨r3,m1,m2,m3,m4,m5,m6,m7,m8,m9,m10⟩:=r2.obj _ _ hl2;have hlt2:=r2.lt_size hl2;obtain⟨rc,ec⟩:=Mr r2 hl2 m2 (.loop {r3 with state:=if jump.isNone then .ready else .done,pending:=jump}) (.loop fr n ps assign body (if jump.isNone then .ready else .done) jump) fun hk=>
    ⟨{r3 with state:=if jump.isNone then .ready else .done,pending:=jump},World.putObj_heap_same hlt2,m2,m3,m4,m5,rfl,rfl,m8,m9,fun t ht=>(m10 t ht).mono hk⟩
   exact⟨_,_,run_endRound jump m1,_,F2,_,_,rfl,(g1.trans eb).trans (e2.trans ec),rc,.v _,hk2⟩
  refine wpIn_mono (Cv (some l) 0 body (.inr hfl.2) k9.2.1 _ _ _ hb F1 _ a1 rb (g3.mono eb.keeps) (g4.mono eb) (Nat.zero_le _)) fun e2 a2 w2 hq2=>?_;cases e2 with
  |normal=>
   obtain⟨F2,fr2,σ2,x1,x2,x3,x4,x5,x6⟩:=hq2;exact end_ok none F2 w2 σ2 fr2 x1 x2 x5 x6
  |ret=>
   obtain⟨F2,fr2,σ2,x1,x2,x3,x4,x5,x6⟩:=hq2;exact end_ok (some .ret) F2 w2 σ2 fr2 x1 x2 x5 x6
  |exit id=>
   obtain⟨F2,fr2,σ2,x1,x2,x3,x4,x5,x6⟩:=hq2;exact end_ok (some (.exit id)) F2 w2 σ2 fr2 x1 x2 x5 x6
  |goto t=>obtain⟨_,_,_,_,_,_,_,h⟩:=hq2;exact h.elim
  |panic c=>exact hq2.elim
  |outgrown=>exact hq2.elim
 |exit id=>obtain⟨_,_,_,_,_,_,_,h⟩:=hq;exact h.elim
 |goto t=>obtain⟨_,_,_,_,_,_,_,h⟩:=hq;exact h.elim
 |ret=>obtain⟨_,_,_,_,_,_,_,h⟩:=hq;exact h.elim
 |panic c=>exact hq.elim
 |outgrown=>exact hq.elim
def Det(T:(AV→Prop)→Prop):Prop:=∀K,T K→∃v,K v∧∀K',K' v→T K'
def Mon(T:(AV→St→Prop)→Prop):Prop:=∀k k',(∀v σ,k v σ→k' v σ)→T k→T k'
theorem Det.mon{T:(AV→Prop)→Prop}(h:Det T){σ:St}:Mon fun k=>T fun v=>k v σ:=fun k k' hk ht=>by
 obtain⟨v,h1,h2⟩:=h _ ht;exact h2 _ (hk v σ h1)
theorem Ak:Det fun _=>False:=fun _ h=>h.elim
theorem Bv(v:AV):Det fun K=>K v:=fun K h=>⟨v,h,fun _ h=>h⟩
theorem Ao{p:Prop}{T:(AV→Prop)→Prop}(h:Det T):Det fun K=>p∧T K:=fun K ⟨hp,ht⟩=>by
 obtain⟨v,h1,h2⟩:=h K ht;exact⟨v,h1,fun K' hk=>⟨hp,h2 K' hk⟩⟩
theorem S7{c:Prop}[Decidable c]{T T':(AV→Prop)→Prop}(h:Det T)(h':Det T'):Det fun K=>if c then T K else T' K:=by
 by_cases hc:c
 ·simpa only[hc,if_true]using h
 ·simpa only[hc,if_false]using h'
theorem Ff{α:Type}{T:α→(AV→Prop)→Prop}(h:∀x,Det (T x)):Det fun K=>∃x,T x K:=fun K ⟨x,ht⟩=>by
 obtain⟨v,h1,h2⟩:=h x K ht;exact⟨v,h1,fun K' hk=>⟨x,h2 K' hk⟩⟩
theorem Aiu{T T':(AV→Prop)→Prop}(h:Det T)(h':Det T'):Det fun K=>T K∨T' K:=fun K ht=>by
 rcases ht with ht|ht
 ·obtain⟨v,h1,h2⟩:=h K ht
  exact⟨v,h1,fun K' hk=>.inl (h2 K' hk)⟩
 ·obtain⟨v,h1,h2⟩:=h' K ht
  exact⟨v,h1,fun K' hk=>.inr (h2 K' hk)⟩
theorem Ec{T T':(AV→Prop)→Prop}(e:T=T')(h:Det T'):Det T:=e▸h
theorem Zi{ag:Bool}{off sz:Nat}{cs:List AV}:Det (Kw ag off sz cs):=by
 refine Ec (funext fun K=>by unfold Kw;rfl) (S7 (Ao (Bv _)) (Ao (Bv _)))
theorem Zj{c x y:AV}:Det (Jm c x y):=by
 cases c with
 |v c=>cases c with
  |bool b=>exact S7 (c:=b=true) (Bv _) (Bv _)
  |_=>exact Ak
 |_=>exact Ak
theorem Aem{x:AV}:Det (Qb x):=by
 cases x with
 |v c=>cases c with
  |pointer p=>cases p with
   |some a=>exact Bv _
   |none=>exact Ak
  |func f x y=>cases f with
   |func f=>exact Bv _
   |yield f=>exact Bv _
   |_=>exact Ak
  |_=>exact Ak
 |fp cs=>exact Bv _
 |rp b q i f=>exact Bv _
 |_=>exact Ak
theorem Zd{i:Option TK}{f:Nat}{x:AV}:Det (I3 i f x):=by
 cases i with
 |none=>exact Ak
 |some i=>
  obtain⟨ag,sz,zr,td⟩:=i;cases td with
  |st fs=>
   cases hf:fs[f]? with
   |none=>refine Ec (funext fun K=>?_) Ak;simp[I3,hf]
   |some q=>
    obtain⟨off,sz',ag'⟩:=q
    have e:∀K,I3 (some ⟨ag,sz,zr,.st fs⟩) f x K=(0<sz'∧match x with
     | .v (.pointer (some ⟨b,p,none⟩))=>K (.v (.pointer (some ⟨b,p+off,none⟩)))
     | .fp cs=>off≤cs.length∧K (.fp (cs.drop off))
     | .rp b q j g=>K (.rp b q j (g+off))
     |_=>False):=fun K=>by simp only[I3,hf];first|done|rfl
    refine Ec (funext e) (Ao ?_);cases x with
    |v c=>cases c with
     |pointer p=>cases p with
      |some a=>
       obtain⟨b,p,s⟩:=a;cases s with
       |none=>exact Bv _
       |some _=>exact Ak
      |none=>exact Ak
     |_=>exact Ak
    |fp cs=>exact Ao (Bv _)
    |rp b q i f=>exact Bv _
    |_=>exact Ak
  |_=>exact Ak
theorem Aeg{i:Option TK}{f:Nat}{x:AV}:Det (N1 i f x):=by
 cases i with
 |none=>exact Ak
 |some i=>
  obtain⟨ag,sz,zr,td⟩:=i;cases td with
  |st fs=>
   cases hf:fs[f]? with
   |none=>refine Ec (funext fun K=>?_) Ak;simp[N1,hf]
   |some q=>
    obtain⟨off,sz',ag'⟩:=q;cases x with
    |agg cs=>refine Ec (funext fun K=>?_) (Zi (ag:=ag') (off:=off) (sz:=sz') (cs:=cs));simp[N1,hf]
    |_=>refine Ec (funext fun K=>?_) Ak;simp[N1,hf]
  |_=>exact Ak
theorem Zf{i:Option TK}{σ:St}{x ix:AV}:Det (Fs i σ x ix):=by
 cases i with
 |none=>exact Ak
 |some i=>
  obtain⟨ag,sz,zr,td⟩:=i;cases ix with
  |v c=>cases c with
   |int ik j=>
    cases td with
    |arr m esz eag=>
     cases x with
     |v c=>cases c with
      |pointer p=>cases p with
       |some a=>
        obtain⟨b,p,s⟩:=a;cases s with
        |none=>exact Ao (Ao (Bv _))
        |some _=>exact Ak
       |none=>exact Ak
      |_=>exact Ak
     |fp cs=>exact Ao (Ao (Ao (Bv _)))
     |rp b q r f=>exact Ao (Ao (Bv _))
     |_=>exact Ak
    |sl esz eby ez byt=>
     cases x with
     |v c=>cases c with
      |slice p n m=>cases p with
       |some a=>
        obtain⟨b,p,s⟩:=a;cases s with
        |none=>exact Ao (Ao (Ao (Bv _)))
        |some _=>exact Ak
       |none=>exact Ak
      |_=>exact Ak
     |sl q es=>exact Ao (Ao (Ao (Bv _)))
     |fsl q es=>exact Ao (Ao (Ao (Bv _)))
     |_=>exact Ak
    |_=>exact Ak
   |_=>exact Ak
  |_=>exact Ak
theorem Aeh{i:Option TK}{x ix:AV}:Det (Sg i x ix):=by
 cases i with
 |none=>exact Ak
 |some i=>
  obtain⟨ag,sz,zr,td⟩:=i;cases ix with
  |v c=>cases c with
   |int ik j=>
    cases td with
    |arr m esz eag=>
     cases x with
     |agg cs=>exact Ao (Ao Zi)
     |_=>exact Ak
    |str=>
     cases x with
     |v c=>cases c with
      |string s=>exact Ao (Ao (Bv _))
      |_=>exact Ak
     |_=>exact Ak
    |_=>exact Ak
   |_=>exact Ak
  |_=>exact Ak
theorem Aef{x:AV}{j:Nat}:Det (Hp x j):=by
 cases x with
 |tup vs=>exact Ao (Bv _)
 |_=>exact Ak
theorem Aei{i:Option TK}{x:AV}:Det (K6 i x):=by
 cases i with
 |none=>exact Ak
 |some i=>
  obtain⟨ag,sz,zr,td⟩:=i;cases td with
  |arr m esz eag=>exact Bv _
  |str=>
   cases x with
   |v c=>cases c with
    |string s=>exact Bv _
    |_=>exact Ak
   |_=>exact Ak
  |sl esz eby ez byt=>
   cases x with
   |v c=>cases c with
    |slice p n m=>exact Bv _
    |_=>exact Ak
   |sl q es=>exact Bv _
   |fsl q es=>exact Bv _
   |_=>exact Ak
  |_=>exact Ak
theorem Aen{i:Option TK}{σ:St}{x:AV}{lo hi mx:Option AV}:Det (aSli i σ x lo hi mx):=by
 cases i with
 |none=>exact Ak
 |some i=>
  obtain⟨ag,sz,zr,td⟩:=i;cases td with
  |str=>
   cases x with
   |v c=>cases c with
    |string s=>exact Ao (Ff fun l=>Ff fun h=>Ao (Ao (Ao (Ao (Ao (Bv _))))))
    |_=>exact Ak
   |_=>exact Ak
  |sl esz eby ez byt=>
   exact Aiu (Ff fun b=>Ff fun p=>Ff fun n=>Ff fun c=>Ao (Ff fun l=>Ff fun h=>Ff fun m=>Ao (Ao (Ao (Ao (Ao (Ao (Ao (Bv _)))))))))<|Ff fun es=>Ao (Ff fun l=>Ff fun h=>Ao (Ao (Ao (Ao (Ao (Aiu (Ao (Bv _)) (Ao (Ao (Ao (Bv _))))))))))
  |_=>exact Ak
theorem Zg{i:Option TK}{σ:St}{x:AV}:Det (Da i σ x):=by
 cases i with
 |none=>exact Ak
 |some i=>
  obtain⟨ag,sz,zr,td⟩:=i;cases x with
  |v c=>cases c with
   |pointer p=>cases p with
    |some a=>
     obtain⟨b,p,s⟩:=a;cases s with
     |none=>
      have e:∀K,Da (some ⟨ag,sz,zr,td⟩) σ (.v (.pointer (some ⟨b,p,none⟩))) K=(match σ b with
       |some (.cells cs)=>if ag then p+sz≤cs.length∧K (.agg ((cs.drop p).take sz))else p<cs.length∧K (cs.getD p (.v undef))
       |_=>False):=fun K=>by simp only[Da];first|done|rfl
      refine Ec (funext e) ?_;cases σ b with
      |none=>exact Ak
      |some t=>cases t with
       |cells cs=>exact S7 (c:=ag=true) (Ao (Bv _)) (Ao (Bv _))
       |_=>exact Ak
     |some _=>exact Ak
    |none=>exact Ak
   |_=>exact Ak
  |fp cs=>
   refine Ec (funext fun K=>by unfold Da;rfl) (S7 (Ao (Bv _)) (Ao (Bv _)))
  |rp b q j f=>
   have e:∀K,Da (some ⟨ag,sz,zr,td⟩) σ (.rp b q j f) K=(match σ b with
    |some (.rows q' es _ _)=>q'=q∧j<es.length∧(if ag then f+sz≤q∧K (.agg (((es.getD j []).drop f).take sz))else f<q∧K ((es.getD j []).getD f (.v undef)))
    |_=>False):=fun K=>by simp only[Da];first|done|rfl
   refine Ec (funext e) ?_;cases σ b with
   |none=>exact Ak
   |some t=>cases t with
    |rows q' es frz cap=>exact Ao (Ao (S7 (c:=ag=true) (Ao (Bv _)) (Ao (Bv _))))
    |_=>exact Ak
  |_=>exact Ak
theorem S6{fs:Nat→Option (Nat×Nat)}:∀(r:List (Nat×AV)) (cs:List AV),Det fun K=>Hg fs K cs r
 | [],cs=>Bv _
 |(j,x)::r,cs=>by
  cases h:fs j with
  |none=>refine Ec (funext fun K=>?_) Ak;simp[Hg,h]
  |some q=>
   obtain⟨off,sz⟩:=q;refine Ec (funext fun K=>?_) (Ao (p:=x.cells.length=sz) (Ao (p:=off+sz≤cs.length) (S6 (fs:=fs) r (Az cs off x.cells))));simp[Hg,h]
theorem U9{q:Nat}:∀(r:List (Nat×AV)) (es:List (List AV)),Det fun K=>Hq q (fun es=>K (.fsl q es)) es r
 | [],es=>Bv _
 |(j,x)::r,es=>Ao (Ao (Ao (U9 r _)))
theorem U8{i:Option TK}{ps:List (Nat×AV)}:Det (H8 i ps):=by
 cases i with
 |none=>exact Ak
 |some i=>
  obtain⟨ag,sz,zr,td⟩:=i;cases td with
  |st fs=>exact S6 _ _
  |arr m esz eag=>exact S6 _ _
  |_=>exact Ak
theorem S5{i:Option TK}{n:Nat}{ps:List (Nat×AV)}:Det (Hc i n ps):=by
 cases i with
 |none=>exact Ak
 |some i=>
  obtain⟨ag,sz,zr,td⟩:=i;cases td with
  |sl esz eby ez byt=>exact Ao (Ao (Ao (U9 _ _)))
  |_=>exact Ak
theorem Aiv{op:UnOp}{x:AV}:Det (aUn op x):=by
 cases op<;>cases x<;>first
  |exact Ak
  |(rename_i x;cases x<;>first|exact Ak|exact Bv _)
theorem Am5{op:BinOp}{k:IntKind}{x y:Int}:Det (Ga op k x y):=by
 cases op<;>first|exact Ak|exact Bv _|exact Ao (Bv _)
theorem Am6{op:BinOp}{x y:ByteArray}:Det (K8 op x y):=by
 cases op<;>first|exact Ak|exact Bv _|exact Ao (Bv _)
theorem Aek{x y:AV}:Det (aMin x y):=by
 intro K h;unfold aMin at h;split at h
 ·exact⟨_,h,fun K' hk=>hk⟩
 ·exact h.elim
theorem Aej{x y:AV}:Det (aMax x y):=by
 intro K h;unfold aMax at h;split at h
 ·exact⟨_,h,fun K' hk=>hk⟩
 ·exact h.elim
theorem Ael{P:Program}{t:TypeId}{x:AV}:Det (aMkI P t x):=by
 cases x with
 |v x=>exact Ao (Bv _)
 |_=>exact Ao Ak
theorem Aeo{P:Program}{u:TypeId}{x:AV}:Det (aTyA P u x):=by
 cases x with
 |v x=>cases x with
  |iface t y=>exact Ao (Ao (Bv _))
  |_=>exact Ao Ak
 |_=>exact Ao Ak
theorem Zh{P:Program}{i:Option TK}{σ:St}{m x:AV}{ok:Bool}:Det (M7 P i σ m x ok):=by
 intro K h;unfold M7 at h;split at h
 ·rename_i i
  split at h
  ·rename_i kt et htd
   split at h
   ·rename_i kk ke x' hkk hke
    exact⟨_,h.2,fun K' hk=>by simp only[M7,htd,hkk,hke];exact⟨h.1,hk⟩⟩
   ·rename_i kk ke b x' hkk hke
    split at h
    ·rename_i kv hb
     obtain⟨h1,h2,h3⟩:=h;split at h3
     ·rename_i u hu
      exact⟨_,h3,fun K' hk=>by simp only[M7,htd,hkk,hke,hb,hu];exact⟨h1,h2,hk⟩⟩
     ·rename_i hu
      exact⟨_,h3,fun K' hk=>by simp only[M7,htd,hkk,hke,hb,hu];exact⟨h1,h2,hk⟩⟩
    ·exact h.elim
   ·exact h.elim
  ·exact h.elim
 ·exact h.elim
theorem Ze{fn:Fn}{ev:Operand→AV}{l m:List Operand}:Det (Fq fn ev l m):=by
 cases h1:C9 ev l with
 |none=>refine Ec (funext fun K=>?_) Ak;simp[Fq,h1]
 |some xs=>
  cases h2:C9 ev m with
  |none=>refine Ec (funext fun K=>?_) Ak;simp[Fq,h1,h2]
  |some ys=>refine Ec (funext fun K=>?_) (Bv (.v (.func fn xs.toArray ys.toArray)));simp[Fq,h1,h2]
theorem Am4{P:Program}{neg:Bool}{t:TypeId}{x y:AV}(hsl:Fi P t=false):Det (aEqv P neg t x y):=by
 intro K h;unfold aEqv at h;split at h
 ·exact⟨_,h.2,fun K' hk=>⟨h.1,hk⟩⟩
 ·rename_i p
  refine⟨_,h.2,fun K' hk=>?_⟩;cases p<;>exact⟨h.1,hk⟩
 ·rename_i p hp
  refine⟨_,h.2,fun K' hk=>?_⟩;cases p with
  |none=>exact(hp rfl).elim
  |some p=>exact⟨h.1,hk⟩
 ·exact⟨_,h.2,fun K' hk=>⟨h.1,hk⟩⟩
 ·exact⟨_,h.2,fun K' hk=>⟨h.1,hk⟩⟩
 ·rw[hsl]at h;cases h.1
 ·rw[hsl]at h;cases h.1
 ·rw[hsl]at h;cases h.1
 ·exact⟨_,h.2,fun K' hk=>⟨h.1,hk⟩⟩
 ·exact⟨_,h.2,fun K' hk=>⟨h.1,hk⟩⟩
 ·exact⟨_,h.2,fun K' hk=>⟨h.1,hk⟩⟩
 ·exact h.elim
theorem Aee{P:Program}{neg:Bool}{t:TypeId}{x y:AV}:Det (Rp P neg t x y):=by
 rintro K ⟨h1,h2,xs,ys,vs,ws,ls,e1,e2,e3,e4,e5,e6,e7,hk⟩;exact⟨_,hk,fun K' hk'=>⟨h1,h2,xs,ys,vs,ws,ls,e1,e2,e3,e4,e5,e6,e7,hk'⟩⟩
theorem Am3{P:Program}{neg:Bool}{t:TypeId}{x y:AV}(hsl:Fi P t=false):Det (Rr P neg t x y):=by
 cases h:aggV x with
 |none=>exact Ec (T':=aEqv P neg t x y) (funext fun K=>by simp only[Rr,h]) (Am4 hsl)
 |some xs=>exact Ec (T':=Rp P neg t x y) (funext fun K=>by simp only[Rr,h]) Aee
theorem Y0{P:Program}{op:BinOp}{t:TypeId}{x y:AV}:(∀K,D9 P op t x y K=(match op with| .eql=>Rr P false t x y K| .neq=>Rr P true t x y K|_=>False))∨Det (D9 P op t x y):=by
 cases x with
 |v x=>
  cases y with
  |v y=>
   cases x with
   |int k a=>
    cases y with
    |int k' b=>exact .inr (Ao Am5)
    |_=>exact .inl fun K=>rfl
   |string a=>
    cases y with
    |string b=>exact .inr Am6
    |_=>exact .inl fun K=>rfl
   |_=>exact .inl fun K=>rfl
  |_=>exact .inl fun K=>by cases x<;>rfl
 |_=>exact .inl fun K=>rfl
theorem Am2{P:Program}{op:BinOp}{t:TypeId}{x y:AV}(hsl:Fi P t=false):Det (D9 P op t x y):=by
 rcases Y0 (P:=P) (op:=op) (t:=t) (x:=x) (y:=y)with e|h
 ·refine Ec (funext e) ?_
  cases op<;>first|exact Am3 hsl|exact Ak
 ·exact h
theorem Ak7{P:Program}{neg:Bool}{t:TypeId}{x y:AV}{K K':AV→Prop}(hk:∀v,K v→K' v)(h:aEqv P neg t x y K):aEqv P neg t x y K':=by
 unfold aEqv at h⊢
 split at h<;>first
  |exact⟨h.1,hk _ h.2⟩
  |exact⟨h.1,fun e=>hk _ (h.2.1 e),fun e b=>hk _ (h.2.2 e b)⟩
  |exact h.elim
theorem Ak6{P:Program}{neg:Bool}{t:TypeId}{x y:AV}{K K':AV→Prop}(hk:∀v,K v→K' v)(h:Rr P neg t x y K):Rr P neg t x y K':=by
 unfold Rr at h⊢;split at h
 ·rename_i xs hx
  obtain⟨v,h1,h2⟩:=Aee K h;exact h2 K' (hk v h1)
 ·exact Ak7 hk h
theorem Ak5{P:Program}{op:BinOp}{t:TypeId}{x y:AV}{K K':AV→Prop}(hk:∀v,K v→K' v)(h:D9 P op t x y K):D9 P op t x y K':=by
 rcases Y0 (P:=P) (op:=op) (t:=t) (x:=x) (y:=y)with e|hd
 ·rw[e]at h⊢
  cases op<;>first|exact Ak6 hk h|exact h
 ·obtain⟨v,h1,h2⟩:=hd K h
  exact h2 K' (hk v h1)
end Go.Av
