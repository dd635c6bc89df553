/-
  Contracts of the functions that the statement reaches, and the plain laws of what they reckon.
  Conditions: none.
-/
import Derived.Test.YtmifmncabejffaaGreatRows
import Derived.Sort.AssemblyPlain
import Derived.Test.YtmifmncabejffaaGreatV1EvalNone
import Derived.Test.YtmifmncabejffaaGreatV2EvalNone
import Derived.Test.YtmifmncabejffaaGreatV3EvalNone
set_option linter.unusedVariables false
set_option linter.unusedSimpArgs false
set_option linter.unusedSectionVars false
set_option maxRecDepth 100000
namespace Go.Proofs.YtmifmncabejffaaGreat
open Go Go.Av
def zl0:List Value:=[.string ⟨#[]⟩,.bool false,.int .i64 0,.string ⟨#[]⟩,.string ⟨#[]⟩,.slice none 0 0,.string ⟨#[]⟩,.bool false,.int .i64 0,.string ⟨#[]⟩,.slice none 0 0,.slice none 0 0,.string ⟨#[]⟩,.string ⟨#[]⟩,.string ⟨#[]⟩,.slice none 0 0,.slice none 0 0,.slice none 0 0,.slice none 0 0,.int .i64 0]
@[go_sem] theorem Ao6:zl0.length=20:=_root_.id rfl
@[go_sem] theorem Ao7:zl0.all Value.oneCell'=true:=_root_.id rfl
@[go_sem] theorem tk3:tk Tryz.prog 3=some ⟨false,1,[.int .i64 0],.int .i64⟩:=_root_.id (by kernel_rfl)
@[go_sem] theorem tk4:tk Tryz.prog 4=some ⟨false,1,[.bool false],.bool⟩:=_root_.id (by kernel_rfl)
@[go_sem] theorem ib4:M8 Tryz.prog 4=true:=_root_.id (by kernel_rfl)
@[go_sem] theorem tk5:tk Tryz.prog 5=some ⟨false,1,[.int .u8 0],.int .u8⟩:=_root_.id (by kernel_rfl)
@[go_sem] theorem tk9:tk Tryz.prog 9=some ⟨false,1,[.string ⟨#[]⟩],.str⟩:=_root_.id (by kernel_rfl)
@[go_sem] theorem tk20:tk Tryz.prog 20=some ⟨false,1,[.nilIface],.iface⟩:=_root_.id (by kernel_rfl)
@[go_sem] theorem tk22:tk Tryz.prog 22=some ⟨false,1,[.slice none 0 0],.sl 1 16 [.string ⟨#[]⟩] false⟩:=_root_.id (by kernel_rfl)
@[go_sem] theorem is22:Du Tryz.prog 22=true:=_root_.id (by kernel_rfl)
@[go_sem] theorem tk23:tk Tryz.prog 23=some ⟨false,1,[.slice none 0 0],.sl 11 160 [.string ⟨#[]⟩,.bool false,.int .i64 0,.string ⟨#[]⟩,.string ⟨#[]⟩,.slice none 0 0,.string ⟨#[]⟩,.bool false,.int .i64 0,.string ⟨#[]⟩,.slice none 0 0] false⟩:=_root_.id (by kernel_rfl)
@[go_sem] theorem is23:Du Tryz.prog 23=true:=_root_.id (by kernel_rfl)
@[go_sem] theorem tk25:tk Tryz.prog 25=some ⟨true,4,[.string ⟨#[]⟩,.slice none 0 0,.int .i64 0,.slice none 0 0],.st [(0,1,false),(1,1,false),(2,1,false),(3,1,false)]⟩:=_root_.id (by kernel_rfl)
@[go_sem] theorem tk26:tk Tryz.prog 26=some ⟨false,1,[.slice none 0 0],.sl 4 72 [.string ⟨#[]⟩,.string ⟨#[]⟩,.string ⟨#[]⟩,.slice none 0 0] false⟩:=_root_.id (by kernel_rfl)
@[go_sem] theorem is26:Du Tryz.prog 26=true:=_root_.id (by kernel_rfl)
@[go_sem] theorem tk27:tk Tryz.prog 27=some ⟨false,1,[.slice none 0 0],.sl 5 80 [.int .i64 0,.string ⟨#[]⟩,.string ⟨#[]⟩,.string ⟨#[]⟩,.slice none 0 0] false⟩:=_root_.id (by kernel_rfl)
@[go_sem] theorem is27:Du Tryz.prog 27=true:=_root_.id (by kernel_rfl)
@[go_sem] theorem tk28:tk Tryz.prog 28=some ⟨false,1,[.slice none 0 0],.sl 3 32 [.bool false,.int .i64 0,.string ⟨#[]⟩] false⟩:=_root_.id (by kernel_rfl)
@[go_sem] theorem is28:Du Tryz.prog 28=true:=_root_.id (by kernel_rfl)
@[go_sem] theorem tk30:tk Tryz.prog 30=some ⟨true,4,[.string ⟨#[]⟩,.string ⟨#[]⟩,.string ⟨#[]⟩,.slice none 0 0],.st [(0,1,false),(1,1,false),(2,1,false),(3,1,false)]⟩:=_root_.id (by kernel_rfl)
@[go_sem] theorem tk32:tk Tryz.prog 32=some ⟨true,5,[.int .i64 0,.string ⟨#[]⟩,.string ⟨#[]⟩,.string ⟨#[]⟩,.slice none 0 0],.st [(0,1,false),(1,4,true)]⟩:=_root_.id (by kernel_rfl)
@[go_sem] theorem tk36:tk Tryz.prog 36=some ⟨false,1,[.pointer none],.ptr 80⟩:=_root_.id (by kernel_rfl)
@[go_sem] theorem ip36:Df Tryz.prog 36=true:=_root_.id (by kernel_rfl)
@[go_sem] theorem tk37:tk Tryz.prog 37=some ⟨false,1,[.pointer none],.ptr 46⟩:=_root_.id (by kernel_rfl)
@[go_sem] theorem ip37:Df Tryz.prog 37=true:=_root_.id (by kernel_rfl)
@[go_sem] theorem tk42:tk Tryz.prog 42=some ⟨false,1,[.pointer none],.ptr 72⟩:=_root_.id (by kernel_rfl)
@[go_sem] theorem ip42:Df Tryz.prog 42=true:=_root_.id (by kernel_rfl)
@[go_sem] theorem tk43:tk Tryz.prog 43=some ⟨false,1,[.pointer none],.ptr 120⟩:=_root_.id (by kernel_rfl)
@[go_sem] theorem ip43:Df Tryz.prog 43=true:=_root_.id (by kernel_rfl)
@[go_sem] theorem tk44:tk Tryz.prog 44=some ⟨false,1,[.slice none 0 0],.sl 5 80 [.string ⟨#[]⟩,.string ⟨#[]⟩,.string ⟨#[]⟩,.slice none 0 0,.bool false] false⟩:=_root_.id (by kernel_rfl)
@[go_sem] theorem is44:Du Tryz.prog 44=true:=_root_.id (by kernel_rfl)
@[go_sem] theorem tk46:tk Tryz.prog 46=some ⟨true,10,[.string ⟨#[]⟩,.slice none 0 0,.slice none 0 0,.pointer none,.pointer none,.slice none 0 0,.slice none 0 0,.slice none 0 0,.bool false,.bool false],.st [(0,1,false),(1,1,false),(2,1,false),(3,1,false),(4,1,false),(5,1,false),(6,1,false),(7,1,false),(8,1,false),(9,1,false)]⟩:=_root_.id (by kernel_rfl)
@[go_sem] theorem tk47:tk Tryz.prog 47=some ⟨false,1,[.int .i64 0],.int .i64⟩:=_root_.id (by kernel_rfl)
@[go_sem] theorem tk54:tk Tryz.prog 54=some ⟨false,1,[.nilFunc],.other⟩:=_root_.id (by kernel_rfl)
@[go_sem] theorem tk57:tk Tryz.prog 57=some ⟨false,1,[.nilFunc],.other⟩:=_root_.id (by kernel_rfl)
@[go_sem] theorem tk65:tk Tryz.prog 65=some ⟨true,5,[.string ⟨#[]⟩,.string ⟨#[]⟩,.string ⟨#[]⟩,.slice none 0 0,.bool false],.st [(0,4,true),(4,1,false)]⟩:=_root_.id (by kernel_rfl)
@[go_sem] theorem tk72:tk Tryz.prog 72=some ⟨true,2,[.slice none 0 0,.int .i64 0],.st [(0,1,false),(1,1,false)]⟩:=_root_.id (by kernel_rfl)
@[go_sem] theorem tk74:tk Tryz.prog 74=some ⟨false,1,[.slice none 0 0],.sl 6 104 [.int .i64 0,.string ⟨#[]⟩,.string ⟨#[]⟩,.string ⟨#[]⟩,.slice none 0 0,.slice none 0 0] false⟩:=_root_.id (by kernel_rfl)
@[go_sem] theorem is74:Du Tryz.prog 74=true:=_root_.id (by kernel_rfl)
@[go_sem] theorem tk76:tk Tryz.prog 76=some ⟨false,1,[.nilFunc],.other⟩:=_root_.id (by kernel_rfl)
@[go_sem] theorem tk77:tk Tryz.prog 77=some ⟨false,1,[.pointer none],.ptr 143⟩:=_root_.id (by kernel_rfl)
@[go_sem] theorem ip77:Df Tryz.prog 77=true:=_root_.id (by kernel_rfl)
@[go_sem] theorem tk78:tk Tryz.prog 78=some ⟨false,1,[.pointer none],.ptr 147⟩:=_root_.id (by kernel_rfl)
@[go_sem] theorem ip78:Df Tryz.prog 78=true:=_root_.id (by kernel_rfl)
@[go_sem] theorem tk80:tk Tryz.prog 80=some ⟨true,9,[.string ⟨#[]⟩,.slice none 0 0,.slice none 0 0,.pointer none,.pointer none,.slice none 0 0,.slice none 0 0,.slice none 0 0,.bool false],.st [(0,1,false),(1,1,false),(2,1,false),(3,1,false),(4,1,false),(5,1,false),(6,1,false),(7,1,false),(8,1,false)]⟩:=_root_.id (by kernel_rfl)
@[go_sem] theorem tk81:tk Tryz.prog 81=some ⟨true,2,[.pointer none,.pointer none],.arr 2 1 false⟩:=_root_.id (by kernel_rfl)
@[go_sem] theorem tk86:tk Tryz.prog 86=some ⟨true,3,[.bool false,.int .i64 0,.string ⟨#[]⟩],.st [(0,1,false),(1,1,false),(2,1,false)]⟩:=_root_.id (by kernel_rfl)
@[go_sem] theorem tk88:tk Tryz.prog 88=some ⟨true,4,[.string ⟨#[]⟩,.bool false,.int .i64 0,.string ⟨#[]⟩],.st [(0,1,false),(1,3,true)]⟩:=_root_.id (by kernel_rfl)
@[go_sem] theorem tk89:tk Tryz.prog 89=some ⟨false,1,[.slice none 0 0],.sl 4 48 [.string ⟨#[]⟩,.bool false,.int .i64 0,.string ⟨#[]⟩] false⟩:=_root_.id (by kernel_rfl)
@[go_sem] theorem is89:Du Tryz.prog 89=true:=_root_.id (by kernel_rfl)
@[go_sem] theorem tk90:tk Tryz.prog 90=some ⟨false,1,[.slice none 0 0],.sl 10 136 [.string ⟨#[]⟩,.bool false,.int .i64 0,.string ⟨#[]⟩,.string ⟨#[]⟩,.slice none 0 0,.string ⟨#[]⟩,.bool false,.int .i64 0,.string ⟨#[]⟩] false⟩:=_root_.id (by kernel_rfl)
@[go_sem] theorem is90:Du Tryz.prog 90=true:=_root_.id (by kernel_rfl)
@[go_sem] theorem tk92:tk Tryz.prog 92=some ⟨true,11,[.string ⟨#[]⟩,.bool false,.int .i64 0,.string ⟨#[]⟩,.string ⟨#[]⟩,.slice none 0 0,.string ⟨#[]⟩,.bool false,.int .i64 0,.string ⟨#[]⟩,.slice none 0 0],.st [(0,4,true),(4,1,false),(5,1,false),(6,4,true),(10,1,false)]⟩:=_root_.id (by kernel_rfl)
@[go_sem] theorem tk97:tk Tryz.prog 97=some ⟨false,1,[.pointer none],.ptr 99⟩:=_root_.id (by kernel_rfl)
@[go_sem] theorem ip97:Df Tryz.prog 97=true:=_root_.id (by kernel_rfl)
@[go_sem] theorem tk99:tk Tryz.prog 99=some ⟨true,4,[.slice none 0 0,.slice none 0 0,.int .i64 0,.bool false],.st [(0,1,false),(1,1,false),(2,1,false),(3,1,false)]⟩:=_root_.id (by kernel_rfl)
@[go_sem] theorem Ath:tk Tryz.prog 104=some ⟨true,10,[.string ⟨#[]⟩,.bool false,.int .i64 0,.string ⟨#[]⟩,.string ⟨#[]⟩,.slice none 0 0,.string ⟨#[]⟩,.bool false,.int .i64 0,.string ⟨#[]⟩],.st [(0,4,true),(4,1,false),(5,1,false),(6,4,true)]⟩:=_root_.id (by kernel_rfl)
@[go_sem] theorem Ati:tk Tryz.prog 110=some ⟨false,1,[.slice none 0 0],.sl 1 24 [.slice none 0 0] false⟩:=_root_.id (by kernel_rfl)
@[go_sem] theorem Ar9:Du Tryz.prog 110=true:=_root_.id (by kernel_rfl)
@[go_sem] theorem Atj:tk Tryz.prog 115=some ⟨false,1,[.nilFunc],.other⟩:=_root_.id (by kernel_rfl)
@[go_sem] theorem Atk:tk Tryz.prog 120=some ⟨true,1,[.slice none 0 0],.st [(0,1,false)]⟩:=_root_.id (by kernel_rfl)
@[go_sem] theorem Atl:tk Tryz.prog 123=some ⟨false,1,[.nilFunc],.other⟩:=_root_.id (by kernel_rfl)
@[go_sem] theorem Amw:tk Tryz.prog 125=some ⟨true,6,[.int .i64 0,.string ⟨#[]⟩,.string ⟨#[]⟩,.string ⟨#[]⟩,.slice none 0 0,.slice none 0 0],.st [(0,1,false),(1,4,true),(5,1,false)]⟩:=_root_.id (by kernel_rfl)
@[go_sem] theorem Atm:tk Tryz.prog 127=some ⟨false,1,[.nilFunc],.other⟩:=_root_.id (by kernel_rfl)
@[go_sem] theorem Atn:tk Tryz.prog 130=some ⟨false,1,[.slice none 0 0],.sl 4 40 [.int .i64 0,.string ⟨#[]⟩,.int .i64 0,.int .i64 0] false⟩:=_root_.id (by kernel_rfl)
@[go_sem] theorem Asa:Du Tryz.prog 130=true:=_root_.id (by kernel_rfl)
@[go_sem] theorem Ato:tk Tryz.prog 133=some ⟨false,1,[.pointer none],.ptr 135⟩:=_root_.id (by kernel_rfl)
@[go_sem] theorem Ar5:Df Tryz.prog 133=true:=_root_.id (by kernel_rfl)
@[go_sem] theorem Atp:tk Tryz.prog 135=some ⟨true,2,[.slice none 0 0,.int .i64 0],.st [(0,1,false),(1,1,false)]⟩:=_root_.id (by kernel_rfl)
@[go_sem] theorem Atq:tk Tryz.prog 137=some ⟨true,2,[.int .i64 0,.int .i64 0],.st [(0,1,false),(1,1,false)]⟩:=_root_.id (by kernel_rfl)
@[go_sem] theorem Atr:tk Tryz.prog 143=some ⟨true,2,[.slice none 0 0,.int .i64 0],.st [(0,1,false),(1,1,false)]⟩:=_root_.id (by kernel_rfl)
@[go_sem] theorem Ats:tk Tryz.prog 147=some ⟨true,2,[.slice none 0 0,.bool false],.st [(0,1,false),(1,1,false)]⟩:=_root_.id (by kernel_rfl)
@[go_sem] theorem Att:tk Tryz.prog 148=some ⟨false,1,[.slice none 0 0],.sl 4 48 [.string ⟨#[]⟩,.bool false,.int .i64 0,.string ⟨#[]⟩] false⟩:=_root_.id (by kernel_rfl)
@[go_sem] theorem Asb:Du Tryz.prog 148=true:=_root_.id (by kernel_rfl)
@[go_sem] theorem Atu:tk Tryz.prog 151=some ⟨false,1,[.pointer none],.ptr 155⟩:=_root_.id (by kernel_rfl)
@[go_sem] theorem Ar6:Df Tryz.prog 151=true:=_root_.id (by kernel_rfl)
@[go_sem] theorem Atv:tk Tryz.prog 152=some ⟨false,1,[.slice none 0 0],.sl 1 8 [.int .i64 0] false⟩:=_root_.id (by kernel_rfl)
@[go_sem] theorem Asd:Du Tryz.prog 152=true:=_root_.id (by kernel_rfl)
@[go_sem] theorem Atw:tk Tryz.prog 155=some ⟨true,20,zl0,.st [(0,11,true),(11,1,false),(12,4,true),(16,1,false),(17,1,false),(18,1,false),(19,1,false)]⟩:=_root_.id (by kernel_rfl)
@[go_sem] theorem Atx:tk Tryz.prog 158=some ⟨false,1,[.nilFunc],.other⟩:=_root_.id (by kernel_rfl)
@[go_sem] theorem Aty:tk Tryz.prog 166=some ⟨false,1,[.nilFunc],.other⟩:=_root_.id (by kernel_rfl)
@[go_sem] theorem Atz:tk Tryz.prog 169=some ⟨false,1,[.nilFunc],.other⟩:=_root_.id (by kernel_rfl)
@[go_sem] theorem At0:tk Tryz.prog 171=some ⟨false,1,[.pointer none],.ptr 173⟩:=_root_.id (by kernel_rfl)
@[go_sem] theorem Ar7:Df Tryz.prog 171=true:=_root_.id (by kernel_rfl)
@[go_sem] theorem At1:tk Tryz.prog 173=some ⟨true,3,[.slice none 0 0,.int .i64 0,.bool false],.st [(0,1,false),(1,1,false),(2,1,false)]⟩:=_root_.id (by kernel_rfl)
@[go_sem] theorem At2:tk Tryz.prog 186=some ⟨true,4,[.int .i64 0,.string ⟨#[]⟩,.int .i64 0,.int .i64 0],.st [(0,1,false),(1,1,false),(2,1,false),(3,1,false)]⟩:=_root_.id (by kernel_rfl)
@[go_sem] theorem At3:tk Tryz.prog 200=some ⟨true,4,[.string ⟨#[]⟩,.bool false,.int .i64 0,.string ⟨#[]⟩],.st [(0,1,false),(1,3,true)]⟩:=_root_.id (by kernel_rfl)
@[go_sem] theorem At4:tk Tryz.prog 206=some ⟨false,1,[.int .u64 0],.int .u64⟩:=_root_.id (by kernel_rfl)
@[go_sem] theorem At5:tk Tryz.prog 218=some ⟨false,1,[.nilFunc],.other⟩:=_root_.id (by kernel_rfl)
@[go_sem] theorem At6:tk Tryz.prog 224=some ⟨false,1,[.nilFunc],.other⟩:=_root_.id (by kernel_rfl)
@[go_sem] theorem At7:tk Tryz.prog 227=some ⟨false,1,[.int .i64 0],.int .i64⟩:=_root_.id (by kernel_rfl)
@[go_sem] theorem At8:tk Tryz.prog 234=some ⟨false,1,[.int .u32 0],.int .u32⟩:=_root_.id (by kernel_rfl)
@[go_sem] theorem At9:tk Tryz.prog 236=some ⟨false,1,[.int .u64 0],.int .u64⟩:=_root_.id (by kernel_rfl)
@[go_sem] theorem Aua:tk Tryz.prog 249=some ⟨false,1,[.int .u64 0],.int .u64⟩:=_root_.id (by kernel_rfl)
@[go_sem] theorem Aub:tk Tryz.prog 253=some ⟨false,1,[.pointer none],.ptr 3⟩:=_root_.id (by kernel_rfl)
@[go_sem] theorem Ar8:Df Tryz.prog 253=true:=_root_.id (by kernel_rfl)
@[go_sem] theorem Ar2:I6 Tryz.prog 137=true:=_root_.id (by kernel_rfl)
attribute [go_sem_proc] reduceIte Nat.reduceEqDiff Nat.reduceAdd Nat.reduceMul Nat.reduceSub Nat.reduceLT Nat.reduceLeDiff Int.reduceLE Int.reduceLT Int.reduceToNat Int.reduceEq
theorem H8{G:Prop}{R:Fr→St→Prop}(M:Fr→St→Prop)(h1:(∀fr σ,M fr σ→R fr σ)→G)(h2:∀fr σ,M fr σ→R fr σ):G:=h1 h2
def Acn(σ:St)(q:Nat)(es:List (List AV))(n c:Nat)(k:AV→St→Prop):Prop:=∀b,σ b=none→k (.v (.slice (some ⟨b,0,none⟩) n c)) (σ.set b (.rows q es false c))
theorem Lc{σ:St}{q n c:Nat}{es:List (List AV)}{k:AV→St→Prop}(h:∀b,σ b=none→(∀x o,σ x=some o→x≠b)→k (.v (.slice (some ⟨b,0,none⟩) n c)) (σ.set b (.rows q es false c))):Acn σ q es n c k:=
 fun b hb=>h b hb fun x o hx e=>by subst e;rw[hb]at hx;cases hx
@[go_sem] theorem Aqd{P:Program}{t:TypeId}{l c:Operand}{fr:Fr}{σ:St}{k:AV→St→Prop}:aOp P (.makeSlice t l c) fr σ k=Ld (tk P t) σ (fr.ev l) (fr.ev c) k:=_root_.id rfl
@[go_sem] theorem Ap3{σ:St}{k:AV→St→Prop}{ag byt:Bool}{sz q eby:Nat}{zr ez:List Value}{ik ik':IntKind}{l c:Int}:Ld (some ⟨ag,sz,zr,.sl q eby ez byt⟩) σ (.v (.int ik l)) (.v (.int ik' c)) k=(0<q∧0<eby∧ez.all Value.oneCell'=true∧0≤l∧l≤c∧(eby:Int)*c≤281474976710656∧Acn σ q (List.replicate l.toNat (ez.map .v)) l.toNat c.toNat k):=_root_.id rfl
abbrev ptr(b:Nat):AV:=.v (.pointer (some ⟨b,0,none⟩))
abbrev int(n:Int):AV:=.v (.int .i64 n)
abbrev boo(b:Bool):AV:=.v (.bool b)
abbrev str(s:ByteArray):AV:=.v (.string s)
abbrev Ax:AV:=.v (.slice none 0 0)
abbrev emp:ByteArray:=⟨#[]⟩
structure Tm where
 v:ByteArray
 b:Bool
 n:Int
 s:ByteArray
deriving DecidableEq
def Tm.cs(t:Tm):List AV:=[str t.v,boo t.b,int t.n,str t.s]
def Tm.zero:Tm:=⟨emp,false,0,emp⟩
@[go_sem] theorem Tm.len(t:Tm):t.cs.length=4:=rfl
@[go_sem] theorem Tm.one(t:Tm):t.cs.all AV.one=true:=rfl
@[go_sem] theorem Tm.take(t:Tm):t.cs.take 4=t.cs:=rfl
@[go_sem] theorem Tm.at0(t:Tm):t.cs.getD 0 (.v undef)=str t.v:=rfl
def tmC(l:List Tm):List (List AV):=l.map Tm.cs
@[go_sem] theorem Mj(l:List Tm):(tmC l).length=l.length:=by simp[tmC]
theorem J3{l:List Tm}{i:Nat}(h:i<l.length):(tmC l).getD i []=l[i].cs:=by simp[tmC,List.getD_eq_getElem?_getD,h]
structure Li where
 by':Tm
 nm:ByteArray
 ar:List Tm
 at':Tm
def Li.cs(l:Li):List AV:=[str l.by'.v,boo l.by'.b,int l.by'.n,str l.by'.s,str l.nm,.sl 4 (tmC l.ar),str l.at'.v,boo l.at'.b,int l.at'.n,str l.at'.s]
@[go_sem] theorem Li.len(l:Li):l.cs.length=10:=rfl
@[go_sem] theorem Li.one(l:Li):l.cs.all AV.one=true:=rfl
@[go_sem] theorem Li.take(l:Li):l.cs.take 10=l.cs:=rfl
@[go_sem] theorem Li.at4(l:Li):l.cs.getD 4 (.v undef)=str l.nm:=rfl
@[go_sem] theorem Li.at5(l:Li):l.cs.getD 5 (.v undef)= .sl 4 (tmC l.ar):=rfl
@[go_sem] theorem Li.at0(l:Li):l.cs.getD 0 (.v undef)=str l.by'.v:=rfl
@[go_sem] theorem Li.at6(l:Li):l.cs.getD 6 (.v undef)=str l.at'.v:=rfl
@[go_sem] theorem Li.by0(l:Li):l.cs.take 4=l.by'.cs:=rfl
@[go_sem] theorem Li.atm(l:Li):(l.cs.drop 6).take 4=l.at'.cs:=rfl
@[go_sem] theorem Li.nm4(l:Li):(l.cs.drop 4).getD 0 (.v undef)=str l.nm:=rfl
@[go_sem] theorem Li.ar5(l:Li):(l.cs.drop 5).getD 0 (.v undef)= .sl 4 (tmC l.ar):=rfl
@[go_sem] theorem Li.at60(l:Li):(l.cs.drop 6).getD 0 (.v undef)=str l.at'.v:=rfl
def liC(l:List Li):List (List AV):=l.map Li.cs
@[go_sem] theorem Jv(l:List Li):(liC l).length=l.length:=by simp[liC]
theorem Gz{l:List Li}{i:Nat}(h:i<l.length):(liC l).getD i []=l[i].cs:=by simp[liC,List.getD_eq_getElem?_getD,h]
attribute [go_sem] Nat.le_refl Nat.zero_le Nat.zero_add Nat.add_zero Nat.mul_one Int.toNat_natCast Int.natCast_nonneg Int.cast_ofNat_Int ne_eq not_true_eq_false not_false_eq_true imp_self implies_true true_implies false_implies and_self List.length_map List.length_drop
def Li.zero:Li:=⟨.zero,emp,[],.zero⟩
structure Rl where
 ho:Tm
 nm:ByteArray
 ar:List Tm
 at':Tm
 bo:List Li
def Rl.cs(r:Rl):List AV:=[str r.ho.v,boo r.ho.b,int r.ho.n,str r.ho.s,str r.nm,.sl 4 (tmC r.ar),str r.at'.v,boo r.at'.b,int r.at'.n,str r.at'.s,.sl 10 (liC r.bo)]
@[go_sem] theorem Rl.len(r:Rl):r.cs.length=11:=rfl
@[go_sem] theorem Rl.one(r:Rl):r.cs.all AV.one=true:=rfl
@[go_sem] theorem Rl.take(r:Rl):r.cs.take 11=r.cs:=rfl
@[go_sem] theorem Rl.at0(r:Rl):r.cs.getD 0 (.v undef)=str r.ho.v:=rfl
@[go_sem] theorem Rl.at10(r:Rl):r.cs.getD 10 (.v undef)= .sl 10 (liC r.bo):=rfl
@[go_sem] theorem Rl.ho0(r:Rl):r.cs.take 4=r.ho.cs:=rfl
@[go_sem] theorem Rl.nm4(r:Rl):(r.cs.drop 4).getD 0 (.v undef)=str r.nm:=rfl
@[go_sem] theorem Rl.ar5(r:Rl):(r.cs.drop 5).getD 0 (.v undef)= .sl 4 (tmC r.ar):=rfl
@[go_sem] theorem Rl.bo10(r:Rl):(r.cs.drop 10).getD 0 (.v undef)= .sl 10 (liC r.bo):=rfl
def inC(l:List Int):List (List AV):=l.map fun n=>[int n]
@[go_sem] theorem Tf(l:List Int):(inC l).length=l.length:=by simp[inC]
theorem Te{l:List Int}{i:Nat}(h:i<l.length):(inC l).getD i []=[int l[i]]:=by simp[inC,List.getD_eq_getElem?_getD,h]
def stC(l:List ByteArray):List (List AV):=l.map fun s=>[str s]
@[go_sem] theorem T7(l:List ByteArray):(stC l).length=l.length:=by simp[stC]
theorem Aap{l:List ByteArray}{i:Nat}(h:i<l.length):(stC l).getD i []=[str l[i]]:=by simp[stC,List.getD_eq_getElem?_getD,h]
def Rd(q:Nat)(σ:St)(lv:AV)(es:List (List AV)):Prop:=lv= .sl q es∨LAt q σ lv es
section
variable{q:Nat}{σ σ':St}{lv:AV}{es:List (List AV)}{K:AV→Prop}
theorem Rd.sl:Rd q σ (.sl q es) es:=.inl rfl
theorem Rd.of(h:LAt q σ lv es):Rd q σ lv es:=.inr h
theorem Rd.len{ag:Bool}{sz eby:Nat}{zr ez:List Value}{byt:Bool}(h:Rd q σ lv es):Im (some ⟨ag,sz,zr,.sl q eby ez byt⟩) lv K=K (.v (.int .i64 es.length)):=by
 rcases h with rfl|h
 ·rfl
 ·exact h.len
theorem Rd.elem{ag:Bool}{sz eby:Nat}{zr ez:List Value}{byt:Bool}{ik:IntKind}{j:Int}(h:Rd q σ lv es)(h0:0≤j)(h1:j<es.length)
  (hk:∀p,EAt q σ p (es.getD j.toNat []) 0→K p):Dy (some ⟨ag,sz,zr,.sl q eby ez byt⟩) σ lv (.v (.int ik j)) K:=by
 rcases h with rfl|h
 ·exact⟨rfl,h0,h1,hk _ (.inl (by simp))⟩
 ·exact h.elem h0 h1 hk
theorem Rd.keep(h:Rd q σ lv es)(hs:∀x o,σ x=some o→σ' x=some o):Rd q σ' lv es:=h.imp _root_.id fun h=>h.keep fun x o hx _=>hs x o hx
end
theorem Ahv{q:Nat}{byt:Bool}{σ:St}{lv:AV}{es:List (List AV)}(hq:0<q)(h:LAt q σ lv es):src q byt σ lv=some es:=by
 rcases h with⟨rfl,rfl⟩|rfl|⟨b,cap,rfl,hc,hb⟩
 ·simp[src]
 ·simp[src]
 ·simp only[src,hb]
  rw[if_pos ⟨trivial,by simp,by simp⟩];simp
theorem Ahu{q b:Nat}{o o':Bn}{σ:St}{lv:AV}{es:List (List AV)}(h:LAt q σ lv es)(hb:σ b=some o)(hn:¬Own lv b):LAt q (σ.set b o') lv es:=
 h.keep fun x p hx ho=>by
  have:x≠b:=fun e=>by subst e;exact hn ho
  rw[Ad this];exact hx
abbrev fnv(g:Nat):AV:=.v (.func (.func g) #[] #[])
abbrev slv(b n c:Nat):AV:=.v (.slice (some ⟨b,0,none⟩) n c)
def ltc{α:Type}(cf:α→α→Int)(x y:α):Bool:=decide (cf x y<0)
def rw'{α:Type}(en:α→List AV)(d:Array α):List (List AV):=d.toList.map en
section
variable{α:Type}{en:α→List AV}{d:Array α}
@[go_sem] theorem Ak5:(rw' en d).length=d.size:=by simp[rw']
theorem An[Inhabited α]{j:Nat}(h:j<d.size):(rw' en d).getD j []=en d[j]! :=by
 simp[rw',List.getD_eq_getElem?_getD,h]
theorem Dk{j:Nat}{x:α}:(rw' en d).set j (en x)=rw' en (d.setIfInBounds j x):=by
 simp[rw']
theorem Bz[Inhabited α]{i j:Nat}:(Go.Sort.swp d i j).size=d.size:=by simp[Go.Sort.swp]
end
theorem Ak{β σ:St}{b:Nat}{ob:Bn}(hn:β b=none)(hs:∀x o,β x=some o→σ x=some o):∀x o,β x=some o→(σ.set b ob) x=some o:=fun x o hx=>by
 have:x≠b:=fun e=>by subst e;rw[hn]at hx;cases hx
 rw[Ad this];exact hs x o hx
theorem A8{α:Type}{en:α→List AV}{q:Nat}(hl:∀x,(en x).length=q)(x:α):(en x).take q=en x:=List.take_of_length_le (by rw[hl];omega)
theorem Dt{α:Type}{en:α→List AV}{q:Nat}(hl:∀x,(en x).length=q)(x y:α):en x++List.drop q (en y)=en x:=by rw[List.drop_eq_nil_of_le (by rw[hl];omega),List.append_nil]
def chd{α:Type}[Inhabited α](lt:α→α→Bool)(hi f r:Nat)(d:Array α):Nat:=if 2*r+2<hi∧lt d[f+(2*r+1)]! d[f+(2*r+2)]! =true then 2*r+2 else 2*r+1
theorem Hr{α:Type}[Inhabited α]{lt:α→α→Bool}{hi f r:Nat}{d:Array α}(h:¬2*r+1<hi):Go.Sort.siftDown lt hi f r d=d:=by
 rw[Go.Sort.siftDown];rw[dif_pos (by omega)]
theorem Nh{α:Type}[Inhabited α]{lt:α→α→Bool}{hi f r:Nat}{d:Array α}(h:2*r+1<hi):Go.Sort.siftDown lt hi f r d=if lt d[f+r]! d[f+chd lt hi f r d]! =true then Go.Sort.siftDown lt hi f (chd lt hi f r d) (Go.Sort.swp d (f+r) (f+chd lt hi f r d))else d:=by
 rw[Go.Sort.siftDown];rw[dif_neg (by omega)];by_cases h1:2*r+1+1<hi
 ·by_cases h2:lt d[f+(2*r+1)]! d[f+(2*r+1)+1]! =true
  ·have hc:chd lt hi f r d=2*r+2:=by unfold chd;exact if_pos ⟨h1,h2⟩
   rw[hc,if_pos (by simp only[h1,h2,decide_true,Bool.and_self]),dif_pos h1];by_cases h3:lt d[f+r]! d[f+(2*r+2)]! =true
   ·simp only[h3,Bool.not_true,Bool.false_eq_true,if_false,if_true]
   ·simp only[h3,Bool.not_false,Bool.false_eq_true,if_true,if_false]
  ·have hc:chd lt hi f r d=2*r+1:=by unfold chd;exact if_neg fun h=>h2 h.2
   rw[hc,if_neg (by simp only[h1,decide_true,Bool.true_and];exact h2)];by_cases h3:lt d[f+r]! d[f+(2*r+1)]! =true
   ·simp only[h3,Bool.not_true,Bool.false_eq_true,if_false,if_true]
   ·simp only[h3,Bool.not_false,Bool.false_eq_true,if_true,if_false]
 ·have hc:chd lt hi f r d=2*r+1:=by unfold chd;exact if_neg fun h=>h1 h.1
  rw[hc,if_neg (by simp only[h1,decide_false,Bool.false_and,Bool.false_eq_true,not_false_eq_true])];by_cases h3:lt d[f+r]! d[f+(2*r+1)]! =true
  ·simp only[h3,Bool.not_true,Bool.false_eq_true,if_false,if_true]
  ·simp only[h3,Bool.not_false,Bool.false_eq_true,if_true,if_false]
theorem W8{α:Type}[Inhabited α]{lt:α→α→Bool}{hi f r:Nat}{d:Array α}(h:2*r+1<hi):chd lt hi f r d<hi∧r<chd lt hi f r d:=by
 unfold chd;split
 ·rename_i h;exact⟨h.1,by omega⟩
 ·exact⟨h,by omega⟩
def Ge(x y:ByteArray):Int:=if Op.bytesLess x.toList y.toList=true then-1 else if x=y then 0 else 1
section
variable{σ:St}
theorem Z3(x:ByteArray):AT Tryz.prog 213 [str x] σ fun r σ'=>r=boo false∧σ'=σ:=by
 refine AT.ob Tryz.func213 rfl ?_;simp only[go_sem];exact Ac (r:=boo false) rfl ⟨rfl,rfl⟩
theorem N7(x y:ByteArray):AT Tryz.prog 168 [str x,str y] σ fun r σ'=>r=int (Ge x y)∧σ'=σ:=by
 refine AT.ob Tryz.func168 rfl ?_;simp only[go_sem];refine(Z3 x).p ?_;simp only[go_sem];refine(Z3 y).p ?_;simp only[go_sem];refine aIf_bool (fun h1=>?_) (fun h1=>?_)
 ·simp only[go_sem]
  exact Ac (r:=int (-1)) rfl ⟨by unfold Ge;rw[if_pos h1],rfl⟩
 ·by_cases h2:x=y
  ·have e:(Op.bytesLess x.toList y.toList||decide (x=y))=true:=by rw[decide_eq_true h2];simp
   simp only[go_sem,e,Bool.not_true];exact Ac (r:=int 0) rfl ⟨by unfold Ge;rw[if_neg (by rw[h1];decide),if_pos h2],rfl⟩
  ·have e:(Op.bytesLess x.toList y.toList||decide (x=y))=false:=by rw[decide_eq_false h2,h1];rfl
   simp only[go_sem,e,Bool.not_false];exact Ac (r:=int 1) rfl ⟨by unfold Ge;rw[if_neg (by rw[h1];decide),if_neg h2],rfl⟩
def Lm(x y:Int):Int:=if x<y then-1 else if x=y then 0 else 1
theorem Z2(x:Int):AT Tryz.prog 225 [int x] σ fun r σ'=>r=boo false∧σ'=σ:=by
 refine AT.ob Tryz.func225 rfl ?_;simp only[go_sem];exact Ac (r:=boo false) rfl ⟨rfl,rfl⟩
theorem Y7(x y:Int):AT Tryz.prog 179 [int x,int y] σ fun r σ'=>r=int (Lm x y)∧σ'=σ:=by
 refine AT.ob Tryz.func179 rfl ?_;simp only[go_sem];refine(Z2 x).p ?_;simp only[go_sem];refine(Z2 y).p ?_;simp only[go_sem];refine aIf_by (fun h1=>?_) (fun h1=>?_)
 ·simp only[go_sem]
  exact Ac (r:=int (-1)) rfl ⟨by unfold Lm;rw[if_pos h1],rfl⟩
 ·simp only[go_sem]
  refine aIf_by (fun h2=>?_) (fun h2=>?_)
  ·simp only[go_sem]
   exact Ac (r:=int 1) rfl ⟨by unfold Lm;rw[if_neg h1,if_neg (by omega)],rfl⟩
  ·simp only[go_sem]
   exact Ac (r:=int 0) rfl ⟨by unfold Lm;rw[if_neg h1,if_pos (by omega)],rfl⟩
def orI:List Int→Int
 | []=>0
 |x::l=>if x=0 then orI l else x
theorem Aeu(l:List Int)(hl:l.length≤1000000):AT Tryz.prog 167 [.fsl 1 (inC l)] σ fun r σ'=>r=int (orI l)∧σ'=σ:=by
 refine AT.ob Tryz.func167 rfl ?_;simp only[go_sem,Aa];refine⟨fun m fr σ'=>∃i:Nat,m=l.length-i∧i≤l.length∧σ'=σ∧orI (l.drop i)=orI l∧fr 3=int 0∧fr 6= .fsl 1 (inC l)∧fr 7=int l.length∧fr 8=int i,⟨_,0,rfl,by omega,rfl,rfl,rfl,rfl,rfl,rfl⟩,?_⟩;rintro m fr σ' ⟨i,rfl,hi,rfl,hI,f3,f6,f7,f8⟩;simp only[go_sem,f7,f8];refine aIf_by (fun hlt=>?_) (fun hlt=>?_)
 ·have hil:i<l.length:=by omega
  have e:l.drop i=l[i]::l.drop (i+1):=List.drop_eq_getElem_cons hil;have e2:orI (l[i]::l.drop (i+1))=if l[i]=0 then orI (l.drop (i+1))else l[i]:=rfl
  rw[e,e2]at hI;simp only[go_sem,Aa,f3,f6,f8,Te hil];refine⟨by omega,aIf_by (fun h0=>?_) (fun h0=>?_)⟩
  ·rw[if_pos h0]at hI
   simp only[go_sem,f3,f6,f7,f8,A2 i (by omega)];exact⟨l.length-(i+1),by omega,i+1,rfl,by omega,hI,rfl⟩
  ·rw[if_neg h0]at hI
   simp only[go_sem];rw[←hI];exact Ac (r:=int _) rfl ⟨rfl,rfl⟩
 ·simp only[go_sem,f3]
  rw[←hI,List.drop_of_length_le (by omega)];exact Ac (r:=int 0) rfl ⟨rfl,rfl⟩
end
structure Cn where
 b:Bool
 n:Int
 s:ByteArray
deriving DecidableEq
def Cn.cs(c:Cn):List AV:=[boo c.b,int c.n,str c.s]
@[go_sem] theorem Cn.len(c:Cn):c.cs.length=3:=rfl
@[go_sem] theorem Cn.one(c:Cn):c.cs.all AV.one=true:=rfl
@[go_sem] theorem Cn.take(c:Cn):c.cs.take 3=c.cs:=rfl
@[go_sem] theorem Cn.at0(c:Cn):c.cs.getD 0 (.v undef)=boo c.b:=rfl
@[go_sem] theorem Cn.at1(c:Cn):c.cs.getD 1 (.v undef)=int c.n:=rfl
@[go_sem] theorem Cn.at2(c:Cn):c.cs.getD 2 (.v undef)=str c.s:=rfl
def Ii(x y:Cn):Int:=if x.b=y.b then orI [Lm x.n y.n,Ge x.s y.s]else if x.b=true then-1 else 1
section
variable{σ:St}
theorem Afw(x y:Cn):AT Tryz.prog 170 [.agg x.cs,.agg y.cs] σ fun r σ'=>r=int (Ii x y)∧σ'=σ:=by
 refine AT.ob Tryz.func170 rfl ?_;simp only[go_sem];refine Al fun p hp hpn=>?_;simp only[go_sem];refine Al fun q hq hqn=>?_;have hpq:p≠q:=hqn p _ Ab;have h1:((σ.set p (.cells x.cs)).set q (.cells y.cs)) p=some (.cells x.cs):=by rw[Ad hpq];exact Ab
 have h2:((σ.set p (.cells x.cs)).set q (.cells y.cs)) q=some (.cells y.cs):=Ab;have hd:∀r,Ey ((σ.set p (.cells x.cs)).set q (.cells y.cs)) r σ r:=fun r=>Ao fun z o hz=>A9 hq (fun _ _ h=>h) z o (A9 hp (fun _ _ h=>h) z o hz);revert h1 h2 hd;generalize (σ.set p (.cells x.cs)).set q (.cells y.cs)=σ1;intro h1 h2 hd;by_cases hb:x.b=y.b
 ·have e:decide (¬x.b=y.b)=false:=decide_eq_false fun h=>h hb
  simp only[go_sem,h1,h2,e];refine Ag [.rd 0 false,.rd 1 true,.rd 2 false,.rd 3 true,.rd 5 false,.rd 6 true,.rd 7 false,.rd 8 true,.ef 4 [6,8],.ef 9 [],.rd 10 false,.ef 11 [],.rd 12 false] ?_;simp only[go_sem,h1,h2];refine(Y7 x.n y.n).p ?_;simp only[go_sem,h1,h2];refine(N7 x.s y.s).p ?_;simp only[go_sem];refine(Aeu [Lm x.n y.n,Ge x.s y.s] (by simp)).p ?_;simp only[go_sem];exact Ae (r:=int _) rfl _ σ (hd _) ⟨by unfold Ii;rw[if_pos hb],rfl⟩
 ·have e:decide (¬x.b=y.b)=true:=decide_eq_true hb
  simp only[go_sem,h1,h2,e];refine aIf_bool (fun g=>?_) (fun g=>?_)
  ·simp only[go_sem]
   exact Ae (r:=int (-1)) rfl _ σ (hd _) ⟨by unfold Ii;rw[if_neg hb,if_pos g],rfl⟩
  ·simp only[go_sem]
   exact Ae (r:=int 1) rfl _ σ (hd _) ⟨by unfold Ii;rw[if_neg hb,if_neg (by rw[g];decide)],rfl⟩
end
def cnC(l:List Cn):List (List AV):=l.map Cn.cs
@[go_sem] theorem Lo(l:List Cn):(cnC l).length=l.length:=by simp[cnC]
theorem N8{l:List Cn}{i:Nat}(h:i<l.length):(cnC l).getD i []=l[i].cs:=by simp[cnC,List.getD_eq_getElem?_getD,h]
def D5{α:Type}(c:α→α→Int):List α→List α→Int
 | [],[]=>0
 | [],_::_=> -1
 |_::_,[]=>1
 |x::l,y::k=>if c x y=0 then D5 c l k else c x y
section
variable{σ:St}
theorem Acw(l k:List Cn)(hl:l.length≤1000000000000)(hk:k.length≤1000000000000):AT Tryz.prog 169 [.sl 3 (cnC l),.sl 3 (cnC k),fnv 170] σ fun r σ'=>r=int (D5 Ii l k)∧σ'=σ:=by
 refine AT.ob Tryz.func169 rfl ?_;simp only[go_sem,Aa];refine⟨fun m fr σ'=>∃i:Nat,m=l.length-i∧i≤l.length∧i≤k.length∧(∀x o,σ x=some o→σ' x=some o)∧D5 Ii (l.drop i) (k.drop i)=D5 Ii l k∧fr 0= .sl 3 (cnC l)∧fr 1= .sl 3 (cnC k)∧fr 2=fnv 170∧fr 11= .sl 3 (cnC l)∧fr 12=int l.length∧fr 13=int i,⟨_,0,rfl,by omega,by omega,fun _ _ h=>h,rfl,rfl,rfl,rfl,rfl,rfl,rfl⟩,?_⟩;rintro m fr σ1 ⟨i,rfl,h1,h2,hs,hI,f0,f1,f2,f11,f12,f13⟩;simp only[go_sem,f12,f13];refine aIf_by (fun hlt=>?_) (fun hlt=>?_)
 ·have hil:i<l.length:=by omega
  have e1:l.drop i=l[i]::l.drop (i+1):=List.drop_eq_getElem_cons hil;rw[e1]at hI;simp only[go_sem,Aa,f11,f13,N8 hil];refine⟨by omega,Al fun p hp hpn=>?_⟩;simp only[go_sem,f1,f11,f13];refine aIf_by (fun hge=>?_) (fun hge=>?_)
  ·have e2:k.drop i=[]:=List.drop_of_length_le (by omega)
   rw[e2]at hI;simp only[go_sem];rw[←hI];exact Ae (r:=int 1) rfl _ σ (Ao fun x o hx=>by rw[Ad (hpn x o (hs x o hx))];exact hs x o hx) ⟨rfl,rfl⟩
  ·have hik:i<k.length:=by omega
   have e2:k.drop i=k[i]::k.drop (i+1):=List.drop_eq_getElem_cons hik;rw[e2]at hI;have e3:D5 Ii (l[i]::l.drop (i+1)) (k[i]::k.drop (i+1))=if Ii l[i] k[i]=0 then D5 Ii (l.drop (i+1)) (k.drop (i+1))else Ii l[i] k[i]:=rfl
   rw[e3]at hI;simp only[go_sem,f1,f13,N8 hik,Ab];refine⟨by omega,Al fun q hq hqn=>?_⟩;have hpq:p≠q:=hqn p _ Ab;have k1:((σ1.set p (.cells l[i].cs)).set q (.cells k[i].cs)) p=some (.cells l[i].cs):=by rw[Ad hpq];exact Ab
   have k2:((σ1.set p (.cells l[i].cs)).set q (.cells k[i].cs)) q=some (.cells k[i].cs):=Ab;have k3:∀x o,σ x=some o→((σ1.set p (.cells l[i].cs)).set q (.cells k[i].cs)) x=some o:=fun x o hx=>by
    have hq0:x≠q:=hqn x o (A9 hp (fun _ _ h=>h) x o (hs x o hx));rw[Ad hq0,Ad (hpn x o (hs x o hx))];exact hs x o hx
   simp only[go_sem,Ab];revert k1 k2 k3;generalize (σ1.set p (.cells l[i].cs)).set q (.cells k[i].cs)=σ2;intro k1 k2 k3;simp only[go_sem,k1,k2,f2];refine(Afw l[i] k[i]).p ?_;simp only[go_sem];refine aIf_by (fun h0=>?_) (fun h0=>?_)
   ·rw[if_pos h0]at hI
    simp only[go_sem,f0,f1,f2,f11,f12,f13,A2 i (by omega)];exact⟨l.length-(i+1),by omega,i+1,rfl,by omega,by omega,k3,hI,rfl⟩
   ·rw[if_neg h0]at hI
    simp only[go_sem];rw[←hI];exact Ae (r:=int _) rfl _ σ (Ao k3) ⟨rfl,rfl⟩
 ·have e1:l.drop i=[]:=List.drop_of_length_le (by omega)
  rw[e1]at hI;simp only[go_sem,f0,f1];refine aIf_by (fun h0=>?_) (fun h0=>?_)
  ·obtain⟨y,t,e2⟩:∃y t,k.drop i=y::t:=⟨k[i]'(by omega),k.drop (i+1),List.drop_eq_getElem_cons (by omega)⟩
   rw[e2]at hI;simp only[go_sem];rw[←hI];exact Ae (r:=int (-1)) rfl _ σ (Ao hs) ⟨rfl,rfl⟩
  ·have e2:k.drop i=[]:=List.drop_of_length_le (by omega)
   rw[e2]at hI;simp only[go_sem];rw[←hI];exact Ae (r:=int 0) rfl _ σ (Ao hs) ⟨rfl,rfl⟩
end
structure Fa where
 at':ByteArray
 by':ByteArray
 pr:ByteArray
 ar:List Cn
def Fa.cs(f:Fa):List AV:=[str f.at',str f.by',str f.pr,.sl 3 (cnC f.ar)]
@[go_sem] theorem Fa.len(f:Fa):f.cs.length=4:=rfl
@[go_sem] theorem Fa.one(f:Fa):f.cs.all AV.one=true:=rfl
@[go_sem] theorem Fa.take(f:Fa):f.cs.take 4=f.cs:=rfl
@[go_sem] theorem Fa.at0(f:Fa):f.cs.getD 0 (.v undef)=str f.at':=rfl
@[go_sem] theorem Fa.at1(f:Fa):f.cs.getD 1 (.v undef)=str f.by':=rfl
@[go_sem] theorem Fa.at2(f:Fa):f.cs.getD 2 (.v undef)=str f.pr:=rfl
@[go_sem] theorem Fa.at3(f:Fa):f.cs.getD 3 (.v undef)= .sl 3 (cnC f.ar):=rfl
def A4(x y:Fa):Int:=orI [Ge x.at' y.at',Ge x.by' y.by',Ge x.pr y.pr,D5 Ii x.ar y.ar]
section
variable{σ:St}
theorem Gx(x y:Fa)(hx:x.ar.length≤1000000000000)(hy:y.ar.length≤1000000000000):AT Tryz.prog 112 [.agg x.cs,.agg y.cs] σ fun r σ'=>r=int (A4 x y)∧σ'=σ:=by
 refine AT.ob Tryz.func112 rfl ?_;simp only[go_sem];refine Al fun p hp hpn=>?_;simp only[go_sem];refine Al fun q hq hqn=>?_;have hpq:p≠q:=hqn p _ Ab;have h1:((σ.set p (.cells x.cs)).set q (.cells y.cs)) p=some (.cells x.cs):=by rw[Ad hpq];exact Ab
 have h2:((σ.set p (.cells x.cs)).set q (.cells y.cs)) q=some (.cells y.cs):=Ab;have hd:∀r,Ey ((σ.set p (.cells x.cs)).set q (.cells y.cs)) r σ r:=fun r=>Ao fun z o hz=>A9 hq (fun _ _ h=>h) z o (A9 hp (fun _ _ h=>h) z o hz);revert h1 h2 hd;generalize (σ.set p (.cells x.cs)).set q (.cells y.cs)=σ1;intro h1 h2 hd;simp only[go_sem];refine Ag [.rd 0 false,.rd 1 true,.rd 2 false,.rd 3 true,.rd 5 false,.rd 6 true,.rd 7 false,.rd 8 true,.rd 10 false,.rd 11 true,.rd 12 false,.rd 13 true,.rd 15 false,.rd 16 true,.rd 17 false,.rd 18 true,.ef 4 [6,8,11,13,16,18],.ef 9 [11,13,16,18],.ef 14 [16,18],.ef 19 [],.rd 20 false,.ef 21 [],.rd 22 false] ?_;simp only[go_sem,h1,h2];refine(N7 x.at' y.at').p ?_;simp only[go_sem,h1,h2];refine(N7 x.by' y.by').p ?_;simp only[go_sem,h1,h2];refine(N7 x.pr y.pr).p ?_;simp only[go_sem,h1,h2];refine(Acw x.ar y.ar hx hy).p ?_;simp only[go_sem];refine(Aeu [Ge x.at' y.at',Ge x.by' y.by',Ge x.pr y.pr,D5 Ii x.ar y.ar] (by simp)).p ?_;simp only[go_sem];exact Ae (r:=int _) rfl _ σ (hd _) ⟨rfl,rfl⟩
end
structure Fo{α:Type}(c:α→α→Int):Prop where
 zero:∀x y,c x y=0↔x=y
 anti:∀x y,c x y<0↔0<c y x
 trans:∀x y z,c x y<0→c y z<0→c x z<0
theorem Fo.self{α:Type}{c:α→α→Int}(h:Fo c)(x:α):c x x=0:=(h.zero x x).2 rfl
theorem Fo.swo{α:Type}{c:α→α→Int}(h:Fo c):Go.Sort.SWO (ltc c) where
 irrefl x:=by unfold ltc;rw[h.self];rfl
 trans x y z h1 h2:=by
  unfold ltc at*;simp only[decide_eq_true_eq]at*;exact h.trans x y z h1 h2
 ntrans x y z h1 h2:=by
  unfold ltc at*;simp only[decide_eq_false_iff_not]at*;intro h3;by_cases e1:c x y=0
  ·rw[(h.zero x y).1 e1]at h3;exact h2 h3
  ·by_cases e2:c y z=0
   ·rw[←(h.zero y z).1 e2]at h3;exact h1 h3
   ·have a1:c y x<0:=(h.anti y x).2 (by omega)
    have a2:c z y<0:=(h.anti z y).2 (by omega);have a3:=h.trans z y x a2 a1;have:=(h.anti z x).1 a3;omega
theorem Ln:Fo Lm where
 zero x y:=by unfold Lm;repeat' split
              all_goals omega
 anti x y:=by unfold Lm;repeat' split
              all_goals omega
 trans x y z:=by unfold Lm;repeat' split
                 all_goals omega
theorem Jq:∀x:List UInt8,Op.bytesLess x x=false
 | []=>rfl
 |a::x=>by
  unfold Op.bytesLess;rw[Jq x];simp
theorem Ov:∀x y z:List UInt8,Op.bytesLess x y=true→Op.bytesLess y z=true→Op.bytesLess x z=true
 |_,[],_,h,_=>by unfold Op.bytesLess at h;cases h
 |_,_::_,[],_,h=>by unfold Op.bytesLess at h;cases h
 | [],_::_,_::_,_,_=>by unfold Op.bytesLess;rfl
 |a::x,b::y,c::z,h1,h2=>by
  unfold Op.bytesLess at*;simp only[Bool.or_eq_true,Bool.and_eq_true,decide_eq_true_eq,beq_iff_eq]at*;rcases h1 with h1|⟨rfl,h1⟩
  ·rcases h2 with h2|⟨rfl,h2⟩
   ·exact .inl (UInt8.lt_trans h1 h2)
   ·exact .inl h1
  ·rcases h2 with h2|⟨rfl,h2⟩
   ·exact .inl h2
   ·exact .inr ⟨rfl,Ov x y z h1 h2⟩
theorem Ut:∀x y:List UInt8,x=y∨Op.bytesLess x y=true∨Op.bytesLess y x=true
 | [],[]=>.inl rfl
 | [],_::_=>.inr (.inl (by unfold Op.bytesLess;rfl))
 |_::_,[]=>.inr (.inr (by unfold Op.bytesLess;rfl))
 |a::x,b::y=>by
  unfold Op.bytesLess;simp only[Bool.or_eq_true,Bool.and_eq_true,decide_eq_true_eq,beq_iff_eq];rcases UInt8.lt_or_lt_of_ne (a:=a) (b:=b)|>(fun f=>Classical.em (a=b)|>.elim (fun h=>Or.inl h) fun h=>Or.inr (f h))with h|h
  ·subst h
   rcases Ut x y with h|h|h
   ·exact .inl (by rw[h])
   ·exact .inr (.inl (.inr ⟨rfl,h⟩))
   ·exact .inr (.inr (.inr ⟨rfl,h⟩))
  ·rcases h with h|h
   ·exact .inr (.inl (.inl h))
   ·exact .inr (.inr (.inl h))
theorem toList_inj{x y:ByteArray}(h:x.toList=y.toList):x=y:=by
 have:=Qn x y;rw[h,beq_self_eq_true]at this;exact of_decide_eq_true this.symm
theorem Jr{x y:ByteArray}:Ge x y<0↔Op.bytesLess x.toList y.toList=true:=by
 unfold Ge;split
 ·rename_i h;simp[h]
 ·rename_i h;split<;>simp[h]
theorem Mx{x y:ByteArray}:Ge x y=0↔x=y:=by
 unfold Ge;split
 ·rename_i h
  constructor
  ·intro h';omega
  ·rintro rfl;rw[Jq]at h;cases h
 ·split
  ·rename_i h;simp[h]
  ·rename_i h;simp[h]
theorem E9:Fo Ge where
 zero x y:=Mx
 anti x y:=by
  rw[Jr];constructor
  ·intro h
   have h1:¬Ge y x<0:=fun h'=>by
    have:=Ov _ _ _ h (Jr.1 h');rw[Jq]at this;cases this
   have h2:Ge y x≠0:=fun h'=>by
    rw[Mx.1 h',Jq]at h;cases h
   omega
  ·intro h
   rcases Ut x.toList y.toList with h'|h'|h'
   ·rw[toList_inj h',Mx.2 rfl]at h;omega
   ·exact h'
   ·have:=Jr.2 h';omega
 trans x y z h1 h2:=Jr.2 (Ov _ _ _ (Jr.1 h1) (Jr.1 h2))
def Kb{α:Type}(c d:α→α→Int)(x y:α):Int:=if c x y=0 then d x y else c x y
structure Qv{α:Type}(c:α→α→Int):Prop where
 self:∀x,c x x=0
 anti:∀x y,c x y<0↔0<c y x
 trans:∀x y z,c x y≤0→c y z≤0→c x z≤0∧(c x z=0→c x y=0∧c y z=0)
theorem Fo.pre{α β:Type}{c:β→β→Int}(h:Fo c)(f:α→β):Qv fun x y=>c (f x) (f y) where
 self x:=h.self _
 anti x y:=h.anti _ _
 trans x y z h1 h2:=by
  by_cases e1:c (f x) (f y)=0
  ·rw[(h.zero _ _).1 e1]
   exact⟨h2,fun h3=>⟨h.self _,h3⟩⟩
  ·by_cases e2:c (f y) (f z)=0
   ·rw[←(h.zero _ _).1 e2]
    exact⟨h1,fun h3=>⟨h3,h.self _⟩⟩
   ·have:=h.trans (f x) (f y) (f z) (by omega) (by omega)
    exact⟨by omega,fun h3=>by omega⟩
theorem Qv.zero_symm{α:Type}{c:α→α→Int}(h:Qv c){x y:α}(h0:c x y=0):c y x=0:=by
 have h1:=h.anti x y;have h2:=h.anti y x;omega
theorem Qv.lex{α:Type}{c d:α→α→Int}(h:Qv c)(g:Qv d):Qv (Kb c d) where
 self x:=by unfold Kb;rw[if_pos (h.self x),g.self]
 anti x y:=by
  unfold Kb;have h1:=h.anti x y;have h2:=h.anti y x;have h3:=g.anti x y;split<;>split<;>omega
 trans x y z:=by
  unfold Kb;intro h1 h2;by_cases e1:c x y=0
  ·rw[if_pos e1]at h1⊢
   by_cases e2:c y z=0
   ·rw[if_pos e2]at h2⊢
    obtain⟨t1,t2⟩:=h.trans x y z (by omega) (by omega);have t3:=h.trans z y x (by have:=h.zero_symm e2;omega) (by have:=h.zero_symm e1;omega);have t4:=h.anti x z;have t5:=h.anti z x;have e3:c x z=0:=by omega
    rw[if_pos e3];exact g.trans x y z h1 h2
   ·rw[if_neg e2]at h2⊢
    obtain⟨t1,t2⟩:=h.trans x y z (by omega) (by omega);have e3:c x z≠0:=fun e=>e2 (t2 e).2;rw[if_neg e3];exact⟨t1,fun e=>absurd e e3⟩
  ·rw[if_neg e1]at h1⊢
   have h2':c y z≤0:=by split at h2<;>omega
   obtain⟨t1,t2⟩:=h.trans x y z (by omega) h2';have e3:c x z≠0:=fun e=>e1 (t2 e).1;rw[if_neg e3];exact⟨t1,fun e=>absurd e e3⟩
theorem Qv.ord{α:Type}{c:α→α→Int}(h:Qv c)(h0:∀x y,c x y=0→x=y):Fo c where
 zero x y:=⟨h0 x y,fun e=>by rw[e];exact h.self y⟩
 anti:=h.anti
 trans x y z h1 h2:=by
  obtain⟨t1,t2⟩:=h.trans x y z (by omega) (by omega);have:c x z≠0:=fun e=>by have:=(t2 e).1;omega
  omega
theorem O7{α:Type}{c:α→α→Int}(h:Fo c):Fo (D5 c):=by
 have e:∀(x y:α) (l k:List α),D5 c (x::l) (y::k)=if c x y=0 then D5 c l k else c x y:=fun _ _ _ _=>rfl
 have hz:∀l k:List α,D5 c l k=0↔l=k:=by
  intro l
  induction l with
  |nil=>intro k;cases k<;>simp[D5]
  |cons x l ih=>
   intro k;cases k with
   |nil=>simp[D5]
   |cons y k=>
    rw[e];by_cases h0:c x y=0
    ·rw[if_pos h0,ih,(h.zero x y).1 h0];simp
    ·rw[if_neg h0]
     exact⟨fun h'=>absurd h' h0,fun h'=>absurd ((h.zero x y).2 (List.cons.inj h').1) h0⟩
 have ha:∀l k:List α,D5 c l k<0↔0<D5 c k l:=by
  intro l
  induction l with
  |nil=>intro k;cases k<;>simp[D5]
  |cons x l ih=>
   intro k;cases k with
   |nil=>simp[D5]
   |cons y k=>
    rw[e,e];have h1:=h.anti x y;have h2:=h.anti y x;have h3:=ih k;split<;>split<;>omega
 refine⟨hz,ha,?_⟩;intro l
 induction l with
 |nil=>
  intro k m h1 h2;cases k with
  |nil=>simp[D5]at h1
  |cons y k=>
   cases m with
   |nil=>simp[D5]at h2
   |cons z m=>simp[D5]
 |cons x l ih=>
  intro k m h1 h2;cases k with
  |nil=>simp[D5]at h1
  |cons y k=>
   cases m with
   |nil=>simp[D5]at h2
   |cons z m=>
    rw[e]at*;by_cases e1:c x y=0
    ·rw[if_pos e1]at h1
     rw[(h.zero x y).1 e1];by_cases e2:c y z=0
     ·rw[if_pos e2]at h2⊢
      exact ih k m h1 h2
     ·rw[if_neg e2]at h2⊢
      exact h2
    ·rw[if_neg e1]at h1
     by_cases e2:c y z=0
     ·rw[←(h.zero y z).1 e2,if_neg e1]
      exact h1
     ·rw[if_neg e2]at h2
      have:=h.trans x y z h1 h2;rw[if_neg (by omega)];exact this
theorem orI2(a b:Int):orI [a,b]=if a=0 then b else a:=by
 simp only[orI];split
 ·split
  ·rename_i h;exact h.symm
  ·rfl
 ·rfl
def cmpN(x y:Cn):Int:=if x.b=y.b then 0 else if x.b=true then-1 else 1
theorem Acx:Qv cmpN:=by
 refine⟨fun x=>by simp[cmpN],fun x y=>?_,fun x y z=>?_⟩
 ·unfold cmpN;cases x.b<;>cases y.b<;>simp
 ·unfold cmpN;cases x.b<;>cases y.b<;>cases z.b<;>simp
theorem Mw{x y:Cn}:cmpN x y=0↔x.b=y.b:=by
 unfold cmpN;cases x.b<;>cases y.b<;>simp
theorem Afx(x y:Cn):Ii x y=Kb cmpN (Kb (fun x y:Cn=>Lm x.n y.n) fun x y:Cn=>Ge x.s y.s) x y:=by
 unfold Ii Kb;rw[orI2];by_cases hb:x.b=y.b
 ·rw[if_pos hb,if_pos (Mw.2 hb)]
 ·rw[if_neg hb,if_neg (fun h=>hb (Mw.1 h))]
  unfold cmpN;rw[if_neg hb]
theorem Em{α:Type}{c d:α→α→Int}{x y:α}(h:Kb c d x y=0):c x y=0∧d x y=0:=by
 unfold Kb at h;split at h
 ·rename_i h0;exact⟨h0,h⟩
 ·rename_i h0;exact absurd h h0
theorem Uv:Fo Ii:=by
 have p:=Acx.lex ((Ln.pre Cn.n).lex (E9.pre Cn.s));rw[show Ii=_ from funext fun x=>funext fun y=>Afx x y];refine p.ord fun x y h=>?_;obtain⟨h1,h⟩:=Em h;obtain⟨h2,h3⟩:=Em h;cases x;cases y
 have e1:=Mw.1 h1;have e2:=(Ln.zero _ _).1 h2;have e3:=(E9.zero _ _).1 h3;simp only at e1 e2 e3;rw[e1,e2,e3]
theorem Afz(x y:Fa):A4 x y=Kb (fun x y:Fa=>Ge x.at' y.at') (Kb (fun x y:Fa=>Ge x.by' y.by') (Kb (fun x y:Fa=>Ge x.pr y.pr) fun x y:Fa=>D5 Ii x.ar y.ar)) x y:=by
 unfold A4 Kb;simp only[orI];split
 ·split
  ·split
   ·split
    ·rename_i h;exact h.symm
    ·rfl
   ·rfl
  ·rfl
 ·rfl
theorem Ap:Fo A4:=by
 have p:=(E9.pre Fa.at').lex ((E9.pre Fa.by').lex ((E9.pre Fa.pr).lex ((O7 Uv).pre Fa.ar)));rw[show A4=_ from funext fun x=>funext fun y=>Afz x y];refine p.ord fun x y h=>?_;obtain⟨h1,h⟩:=Em h;obtain⟨h2,h⟩:=Em h;obtain⟨h3,h4⟩:=Em h;cases x;cases y
 have e1:=(E9.zero _ _).1 h1;have e2:=(E9.zero _ _).1 h2;have e3:=(E9.zero _ _).1 h3;have e4:=((O7 Uv).zero _ _).1 h4;simp only at e1 e2 e3 e4;rw[e1,e2,e3,e4]
instance decFa:DecidableEq Fa:=fun x y=>decidable_of_iff (A4 x y=0) (Ap.zero x y)
def Ll:List Fa→List Fa→Int:=D5 A4
theorem Ea:Fo Ll:=O7 Ap
def Tm.val(t:Tm):Cn:=⟨t.b,t.n,t.s⟩
structure Bi where
 v:ByteArray
 c:Cn
deriving DecidableEq
def Bi.cs(x:Bi):List AV:=[str x.v,boo x.c.b,int x.c.n,str x.c.s]
@[go_sem] theorem Bi.len(x:Bi):x.cs.length=4:=rfl
@[go_sem] theorem Bi.one(x:Bi):x.cs.all AV.one=true:=rfl
@[go_sem] theorem Bi.take(x:Bi):x.cs.take 4=x.cs:=rfl
@[go_sem] theorem Bi.at0(x:Bi):x.cs.getD 0 (.v undef)=str x.v:=rfl
def biC(l:List Bi):List (List AV):=l.map Bi.cs
@[go_sem] theorem Sv(l:List Bi):(biC l).length=l.length:=by simp[biC]
theorem Y4{l:List Bi}{i:Nat}(h:i<l.length):(biC l).getD i []=l[i].cs:=by simp[biC,List.getD_eq_getElem?_getD,h]
def N2:List Bi→ByteArray→Option Cn
 | [],_=>none
 |x::l,v=>if x.v=v then some x.c else N2 l v
def Ei(t:Tm)(env:List Bi):Option Cn:=if t= .zero then none else if t.v=emp then some t.val else N2 env t.v
def B0(t:Tm)(c:Cn)(env:List Bi):Option (List Bi):=
 match Ei t env with
 |some x=>if x=c then some env else none
 |none=>if t.v=emp then none else some (env++[⟨t.v,c⟩])
def nmC(s:ByteArray):Cn:=⟨false,0,s⟩
def Ic:List (Tm×Cn)→List Bi→Option (List Bi)
 | [],e=>some e
 |p::l,e=>(B0 p.1 p.2 e).bind (Ic l)
def orT(a b:Tm):Tm:=if a= .zero then b else a
def fits(l:Li)(f:Fa):Bool:=decide (l.nm=f.pr)&&decide (l.ar.length=f.ar.length)&&(decide (l.by'≠.zero)||decide (f.by'=f.at'))
def eqs(ho:Tm)(l:Li)(f:Fa):List (Tm×Cn):=(orT l.at' ho,nmC f.at')::((if l.by'= .zero then[]else[(l.by',nmC f.by')])++l.ar.zip f.ar)
def Fi(ho:Tm)(l:Li)(f:Fa)(env:List Bi):Option (List Bi):=if fits l f=true then Ic (eqs ho l f) env else none
def Cs(ho:Tm)(bo:List Li)(cand:Nat→List Fa):List Nat→List Bi→List Fa→List (List Fa)
 | [],_,got=>[got]
 |k::o,env,got=>(cand k).flatMap fun x=>match Fi ho (bo.getD k .zero) x env with
  |some e=>Cs ho bo cand o e (got.set k x)
  |none=>[]
structure Ctx(σ0:St)(L:List (Nat×Bn))(σ:St):Prop where
 sub:∀x o,σ0 x=some o→σ x=some o
 frs:∀p∈L,σ0 p.1=none
 mem:∀p∈L,σ p.1=some p.2
 nod:(L.map Prod.fst).Nodup
section
variable{σ0 σ σ':St}{L:List (Nat×Bn)}{b b0 b1 b2 b3 b4 b5:Nat}{o o' o0 o1 o2 o3 o4 o5:Bn}{k:AV→St→Prop}{cs:List AV}
theorem Ctx.nil:Ctx σ [] σ:=⟨fun _ _ h=>h,fun p hp=>(by cases hp),fun p hp=>(by cases hp),List.nodup_nil⟩
theorem Ctx.new(c:Ctx σ0 L σ)(hb:σ b=none):Ctx σ0 ((b,o)::L) (σ.set b o) where
 sub:=fun x p hx=>by
  have:=c.sub x p hx;rw[Ad (fun e=>by rw[e,hb]at this;cases this)];exact this
 frs p hp:=by
  rcases List.mem_cons.1 hp with rfl|hp
  ·exact Cj c.sub hb
  ·exact c.frs p hp
 mem p hp:=by
  rcases List.mem_cons.1 hp with rfl|hp
  ·exact Ab
  ·have:=c.mem p hp
   rw[Ad (fun e=>by rw[e,hb]at this;cases this)];exact this
 nod:=by
  rw[List.map_cons,List.nodup_cons];refine⟨fun h=>?_,c.nod⟩;obtain⟨p,hp,he⟩:=List.mem_map.1 h;have:=c.mem p hp;rw[he,hb]at this;cases this
theorem Ctx.upd(c:Ctx σ0 L σ)(i:Nat)(hi:(L[i]?).map Prod.fst=some b):Ctx σ0 (L.set i (b,o')) (σ.set b o'):=by
 obtain⟨⟨b',o⟩,h1,h2⟩:=Option.map_eq_some_iff.1 hi;simp only at h2;subst h2;obtain⟨hl,h1⟩:=List.getElem?_eq_some_iff.1 h1;have hb0:σ0 b'=none:=c.frs _ (h1▸List.getElem_mem hl);have hm:∀p∈L.set i (b',o'),∃j,∃hj:j<L.length,p=if j=i then(b',o')else L[j]:=fun p hp=>by
  obtain⟨j,hj,rfl⟩:=List.mem_iff_getElem.1 hp;refine⟨j,by simpa using hj,?_⟩;rw[List.getElem_set];by_cases e:i=j
  ·rw[if_pos e,if_pos e.symm]
  ·rw[if_neg e,if_neg (Ne.symm e)]
 have hn:∀j (hj:j<L.length),j≠i→L[j].1≠b':=fun j hj hji e=>by
  have hp:=List.pairwise_iff_getElem.1 c.nod;rcases Nat.lt_or_gt_of_ne hji with h|h
  ·exact hp j i (by simpa using hj) (by simpa using hl) h (by simp[e,h1])
  ·exact hp i j (by simpa using hl) (by simpa using hj) h (by simp[e,h1])
 refine⟨Ak hb0 c.sub,fun p hp=>?_,fun p hp=>?_,?_⟩
 ·obtain⟨j,hj,rfl⟩:=hm p hp
  split
  ·exact hb0
  ·exact c.frs _ (List.getElem_mem hj)
 ·obtain⟨j,hj,rfl⟩:=hm p hp
  split
  ·exact Ab
  ·rename_i hji
   rw[Ad (hn j hj hji)];exact c.mem _ (List.getElem_mem hj)
 ·rw[List.map_set,show(b',o').1=b' from rfl,show(L.map Prod.fst).set i b'=L.map Prod.fst from ?_]
  ·exact c.nod
  ·refine List.ext_getElem? fun j=>?_
   by_cases e:i=j
   ·subst e;simp[List.getElem?_set,hl,h1]
   ·rw[List.getElem?_set_ne e]
theorem Ctx.f0(c:Ctx σ0 ((b0,o0)::L) σ):σ0 b0=none:=c.frs (b0,o0) (by simp)
theorem Ctx.f1(c:Ctx σ0 ((b0,o0)::(b1,o1)::L) σ):σ0 b1=none:=c.frs (b1,o1) (by simp)
theorem Ctx.g0(c:Ctx σ0 ((b0,o0)::L) σ):σ b0=some o0:=c.mem (b0,o0) (by simp)
theorem Ctx.g1(c:Ctx σ0 ((b0,o0)::(b1,o1)::L) σ):(σ b0=some o0∧σ b1=some o1)∧b0≠b1∧b1≠b0:=by
 have:=c.nod;simp only[List.map_cons,List.nodup_cons,List.mem_cons,not_or]at this;exact⟨⟨c.mem (b0,o0) (by simp),c.mem (b1,o1) (by simp)⟩,this.1.1,Ne.symm this.1.1⟩
theorem Ctx.g2(c:Ctx σ0 ((b0,o0)::(b1,o1)::(b2,o2)::L) σ):(σ b0=some o0∧σ b1=some o1∧σ b2=some o2)∧b0≠b1∧b1≠b0∧b0≠b2∧b2≠b0∧b1≠b2∧b2≠b1:=by
 have:=c.nod;simp only[List.map_cons,List.nodup_cons,List.mem_cons,not_or]at this;exact⟨⟨c.mem (b0,o0) (by simp),c.mem (b1,o1) (by simp),c.mem (b2,o2) (by simp)⟩,this.1.1,Ne.symm this.1.1,this.1.2.1,Ne.symm this.1.2.1,this.2.1.1,Ne.symm this.2.1.1⟩
theorem Ctx.g3(c:Ctx σ0 ((b0,o0)::(b1,o1)::(b2,o2)::(b3,o3)::L) σ):(σ b0=some o0∧σ b1=some o1∧σ b2=some o2∧σ b3=some o3)∧b0≠b1∧b1≠b0∧b0≠b2∧b2≠b0∧b1≠b2∧b2≠b1∧b0≠b3∧b3≠b0∧b1≠b3∧b3≠b1∧b2≠b3∧b3≠b2:=by
 have:=c.nod;simp only[List.map_cons,List.nodup_cons,List.mem_cons,not_or]at this;exact⟨⟨c.mem (b0,o0) (by simp),c.mem (b1,o1) (by simp),c.mem (b2,o2) (by simp),c.mem (b3,o3) (by simp)⟩,this.1.1,Ne.symm this.1.1,this.1.2.1,Ne.symm this.1.2.1,this.2.1.1,Ne.symm this.2.1.1,this.1.2.2.1,Ne.symm this.1.2.2.1,this.2.1.2.1,Ne.symm this.2.1.2.1,this.2.2.1.1,Ne.symm this.2.2.1.1⟩
theorem Ctx.tl{p:Nat×Bn}(c:Ctx σ0 (p::L) σ):Ctx σ0 L σ:=⟨c.sub,fun q hq=>c.frs q (List.mem_cons_of_mem _ hq),fun q hq=>c.mem q (List.mem_cons_of_mem _ hq),(List.nodup_cons.1 c.nod).2⟩
theorem Ctx.alloc(c:Ctx σ0 L σ)(h:∀b σ',Ctx σ0 ((b,o)::L) σ'→k (ptr b) σ'):aNew σ o k:=Al fun b hb hbn=>h b _ (c.new hb)
theorem Ctx.view(c:Ctx σ0 L σ)(r:AV):Ey σ r σ0 r:=Ao c.sub
theorem Ctx.abs(c:Ctx σ0 L σ)(i:Nat)(hi:(L[i]?).map Prod.fst=some b)(o':Bn):∃s,σ.set b o'=s∧Ctx σ0 (L.set i (b,o')) s:=⟨_,rfl,c.upd i hi⟩
theorem Ctx.more(c:Ctx σ0 L σ)(h:∀x o,σ x=some o→σ' x=some o):Ctx σ0 L σ':=⟨fun x o hx=>h x o (c.sub x o hx),c.frs,fun p hp=>h _ _ (c.mem p hp),c.nod⟩
end
section
variable{σ σ1:St}{q:Nat}{lv:AV}{es:List (List AV)}{P:Program}{f:FuncId}
theorem Jy{x:Nat}:¬Own (.sl q es) x:=fun⟨n,c,e⟩=>by cases e
theorem A3{x:Nat}:¬Own (.fsl q es) x:=fun⟨n,c,e⟩=>by cases e
theorem Bu{x:Nat}:¬Own Ax x:=fun⟨n,c,e⟩=>by cases e
theorem Bg{b n c x:Nat}:Own (slv b n c) x↔x=b:=by
 constructor
 ·rintro⟨n',c',e⟩
  simp only[AV.v.injEq,Value.slice.injEq,Option.some.injEq,Addr.mk.injEq]at e;exact e.1.1.symm
 ·rintro rfl;exact⟨_,_,rfl⟩
theorem Ae3(h:LAt q σ1 lv es)(hg:Cz σ σ1 lv):VW σ1 σ lv (.sl q es):=h.vw_same fun x hx=>hg.own hx
theorem H9(h:LAt q σ1 lv es)(hg:Cz σ σ1 lv):Ey σ1 lv σ (.sl q es):=
 view_of (Jg fun x o hx=>.inl (hg.sub x o hx)) (Ae3 h hg)
theorem Tt(h:LAt q σ1 lv es)(hg:Cz σ σ1 lv)(x:AV):Ey σ1 (.tup [lv,x]) σ (.tup [.sl q es,x]):=
 view_of (Jg fun x o hx=>.inl (hg.sub x o hx)) (.tup _ _ rfl (vws_cons (Ae3 h hg) (Ch _)).2)
theorem Me(h:∀x o,σ x=some o→σ1 x=some o)(x:AV):Ey σ1 (.tup [Ax,x]) σ (.tup [.sl q [],x]):=
 view_of (Jg fun x o hx=>.inl (h x o hx)) (.tup _ _ rfl (vws_cons (.nil q) (Ch _)).2)
theorem AT.pre{args args':List AV}{Q:AV→St→Prop}(h:AT P f args' σ1 Q)(hn:Rq P f=false)(hS:SV σ σ1)(hw:VWs σ σ1 args args'):AT P f args σ Q:=by
 rcases h with⟨h1,h2⟩|⟨h1,h2⟩
 ·refine .inl ⟨h1,fun F w vs hs hv=>?_⟩
  obtain⟨F',k1,k2,k3⟩:=view_of hS (.tup args args' hw.1 hw.2) F w (.tuple vs.toArray) hs (.tup _ _ (by simpa using hv.1) (fun j hj=>by simpa using hv.2 j hj));have hv':RVs F' w args' vs:=by
   cases k3 with
   |tup _ _ hl hh=>exact⟨by simpa using hl,fun j hj=>by simpa using hh j hj⟩
  exact(h2 F' w vs k2 hv').mono fun e w' ⟨x,F'',σ',r,g1,g2,g3,g4,g5⟩=>⟨x,F'',σ',r,g1,k1.trans g2,g3,g4,g5⟩
 ·rw[hn]at h1;cases h1
end
def Cn.zero:Cn:=⟨false,0,emp⟩
def resV(o:Option Cn):AV:=.tup [.agg (o.getD .zero).cs,boo o.isSome]
def K6(o:Option (List Bi)):AV:=.tup [.sl 4 (biC (o.getD [])),boo o.isSome]
@[go_sem] theorem Tm.val1(t:Tm):(t.cs.drop 1).take 3=t.val.cs:=rfl
@[go_sem] theorem Tm.len1(t:Tm):(t.cs.drop 1).length=3:=rfl
@[go_sem] theorem Bi.val1(x:Bi):(x.cs.drop 1).take 3=x.c.cs:=rfl
@[go_sem] theorem Bi.len1(x:Bi):(x.cs.drop 1).length=3:=rfl
@[go_sem] theorem Tm.app(a b:Tm):a.cs++b.cs.drop 4=a.cs:=rfl
@[go_sem] theorem Cn.app(a b:Cn):a.cs++b.cs.drop 3=a.cs:=rfl
@[go_sem] theorem Fa.app(a b:Fa):a.cs++b.cs.drop 4=a.cs:=rfl
section
variable{K:AV→Prop}{σ:St}
theorem Afd{t:Tm}(h:K (boo (decide (t= .zero)))):Nw Tryz.prog false 88 (.agg t.cs) (.agg Tm.zero.cs) K:=by
 refine Sq (ls:=[.s,.b,.i .i64,.s]) (vs:=[.string t.v,.bool t.b,.int .i64 t.n,.string t.s]) (ws:=[.string emp,.bool false,.int .i64 0,.string emp]) (by kernel_rfl) (by kernel_rfl) (by kernel_rfl) rfl rfl rfl rfl (by simp[Fit,Co.ok]) (by simp[Fit,Co.ok]) ?_;rcases t with⟨v,b,n,s⟩;simpa[eqL,Fh,Tm.zero]using h
theorem Al5{a b:Cn}(h:K (boo (decide (a=b)))):Nw Tryz.prog false 86 (.agg a.cs) (.agg b.cs) K:=by
 refine Sq (ls:=[.b,.i .i64,.s]) (vs:=[.bool a.b,.int .i64 a.n,.string a.s]) (ws:=[.bool b.b,.int .i64 b.n,.string b.s]) (by kernel_rfl) (by kernel_rfl) (by kernel_rfl) rfl rfl rfl rfl (by simp[Fit,Co.ok]) (by simp[Fit,Co.ok]) ?_;rcases a with⟨x,n,s⟩;rcases b with⟨y,m,t⟩;cases x<;>cases y<;>simpa[eqL,Fh]using h
theorem Al6{a b:Cn}(h:K (boo (!decide (a=b)))):Nw Tryz.prog true 86 (.agg a.cs) (.agg b.cs) K:=by
 refine Sq (ls:=[.b,.i .i64,.s]) (vs:=[.bool a.b,.int .i64 a.n,.string a.s]) (ws:=[.bool b.b,.int .i64 b.n,.string b.s]) (by kernel_rfl) (by kernel_rfl) (by kernel_rfl) rfl rfl rfl rfl (by simp[Fit,Co.ok]) (by simp[Fit,Co.ok]) ?_;rcases a with⟨x,n,s⟩;rcases b with⟨y,m,t⟩;cases x<;>cases y<;>simpa[eqL,Fh]using h
theorem Gv{P:Program}{Q:AV→St→Prop}{fr:Fr}{t tt u b:Nat}{i:TK}{cs:List AV}(σ':St)(r':AV)(hfr:fr t= .v (.pointer (some ⟨b,0,none⟩)))(hb:σ b=some (.cells cs))(hi:tk P tt=some i)(hag:i.ag=true)(hsz:i.sz=cs.length)
  (hv:Ey σ (.tup [.agg cs,fr u]) σ' r') (hq:Q r' σ'):Fp P Q [.cell t tt,.tmp u] fr σ:=
 ⟨.tup [.agg cs,fr u],by simp[Bj,No,Oo,Un,hfr,hi,hag,hb,hsz,oneR],r',σ',hv,hq⟩
theorem Uc(s:ByteArray):AT Tryz.prog 198 [str s] σ fun r σ'=>r= .agg (nmC s).cs∧σ'=σ:=by
 refine AT.ob Tryz.func198 rfl ?_;simp only[go_sem];refine Ctx.nil.alloc fun p σ1 c1=>?_;simp only[go_sem,c1.g0];exact Jo σ (.agg (nmC s).cs) rfl Ab tk86 rfl rfl ((c1.upd 0 rfl).view _) ⟨rfl,rfl⟩
theorem Aev(a b:Tm):AT Tryz.prog 197 [.agg a.cs,.agg b.cs] σ fun r σ'=>r= .agg (orT a b).cs∧σ'=σ:=by
 refine AT.ob Tryz.func197 rfl ?_;simp only[go_sem];refine Ctx.nil.alloc fun p σ1 c1=>?_;simp only[go_sem];refine c1.alloc fun q σ2 c2=>?_;simp only[go_sem];refine c2.alloc fun r σ3 c3=>?_;simp only[go_sem,c3.g2];refine Afd ?_;simp only[go_sem];refine aIf_by (fun h=>?_) (fun h=>?_)
 ·simp only[go_sem,c3.g2]
  exact Jo σ (.agg (orT a b).cs) rfl Ab tk88 rfl rfl (by unfold orT;rw[if_pos h];exact(c3.upd 0 rfl).view _) ⟨rfl,rfl⟩
 ·simp only[go_sem,c3.g2]
  exact Jo σ (.agg (orT a b).cs) rfl Ab tk88 rfl rfl (by unfold orT;rw[if_neg h];exact(c3.upd 0 rfl).view _) ⟨rfl,rfl⟩
theorem Aiq{t:Tm}{b:Bi}{q:Nat}(hq:σ q=some (.cells t.cs)):AT Tryz.prog 196 [.agg b.cs,ptr q] σ fun r σ'=>r=boo (decide (b.v=t.v))∧σ'=σ:=by
 refine AT.ob Tryz.func196 rfl ?_;simp only[go_sem];refine Ctx.nil.alloc fun p σ1 c1=>?_;simp only[go_sem,c1.g0,c1.sub _ _ hq];exact Ae (r:=boo _) rfl _ σ (c1.view _) ⟨rfl,rfl⟩
theorem Akt{t:Tm}{q:Nat}(env:List Bi)(hl:env.length≤1000000000000)(hq:σ q=some (.cells t.cs)):AT Tryz.prog 195 [.sl 4 (biC env),.v (.func (.func 196) #[] #[.pointer (some ⟨q,0,none⟩)])] σ fun r σ'=>σ'=σ∧((∃i,∃h:i<env.length,r=int i∧N2 env t.v=some env[i].c)∨(r=int (-1)∧N2 env t.v=none)):=by
 refine AT.ob Tryz.func195 rfl ?_;simp only[go_sem,Aa];refine⟨fun m fr σ'=>∃i:Nat,m=env.length-i∧i≤env.length∧σ'=σ∧N2 (env.drop i) t.v=N2 env t.v∧fr 0= .sl 4 (biC env)∧fr 1= .v (.func (.func 196) #[] #[.pointer (some ⟨q,0,none⟩)])∧fr 7=int env.length∧fr 8=int i,⟨_,0,rfl,by omega,rfl,rfl,rfl,rfl,rfl,rfl⟩,?_⟩;rintro m fr σ' ⟨i,rfl,hi,rfl,hI,f0,f1,f7,f8⟩;simp only[go_sem,f7,f8];refine aIf_by (fun hlt=>?_) (fun hlt=>?_)
 ·have hil:i<env.length:=by omega
  rw[List.drop_eq_getElem_cons hil]at hI;have e2:N2 (env[i]::env.drop (i+1)) t.v=if env[i].v=t.v then some env[i].c else N2 (env.drop (i+1)) t.v:=rfl
  rw[e2]at hI;simp only[go_sem,Aa,f0,f1,f8,Y4 hil];refine⟨by omega,?_⟩;refine(Aiq hq).p ?_;simp only[go_sem];refine aIf_by (fun h0=>?_) (fun h0=>?_)
  ·simp only[go_sem,f8]
   rw[if_pos h0]at hI;exact Ac (r:=int i) rfl ⟨rfl,.inl ⟨i,hil,rfl,hI.symm⟩⟩
  ·simp only[go_sem,f0,f1,f7,f8,A2 i (by omega)]
   rw[if_neg h0]at hI;exact⟨env.length-(i+1),by omega,i+1,rfl,by omega,hI,rfl⟩
 ·simp only[go_sem]
  rw[List.drop_of_length_le (by omega)]at hI;exact Ac (r:=int (-1)) rfl ⟨rfl,.inr ⟨rfl,hI.symm⟩⟩
end
def faX(f:Fa)(v:AV):List AV:=[str f.at',str f.by',str f.pr,v]
@[go_sem] theorem Ang(f:Fa)(v:AV):(faX f v).length=4:=rfl
@[go_sem] theorem Amb(f:Fa)(v:AV):(faX f v).take 4=faX f v:=rfl
@[go_sem] theorem Arv(f:Fa)(v:AV):(faX f v).getD 0 (.v undef)=str f.at':=rfl
@[go_sem] theorem Arw(f:Fa)(v:AV):(faX f v).getD 1 (.v undef)=str f.by':=rfl
@[go_sem] theorem Arx(f:Fa)(v:AV):(faX f v).getD 2 (.v undef)=str f.pr:=rfl
@[go_sem] theorem Ary(f:Fa)(v:AV):(faX f v).getD 3 (.v undef)=v:=rfl
theorem Ag2(f:Fa){v:AV}(h:v.one=true):(faX f v).all AV.one=true:=by unfold faX;simp only[List.all_cons,List.all_nil,h,Bool.and_true];rfl
@[go_sem] theorem Fa.d1(f:Fa):(f.cs.drop 1).getD 0 (.v undef)=str f.by':=rfl
@[go_sem] theorem Fa.d2(f:Fa):(f.cs.drop 2).getD 0 (.v undef)=str f.pr:=rfl
@[go_sem] theorem Fa.d3(f:Fa):(f.cs.drop 3).getD 0 (.v undef)= .sl 3 (cnC f.ar):=rfl
@[go_sem] theorem Cn.d1(c:Cn):(c.cs.drop 1).getD 0 (.v undef)=int c.n:=rfl
@[go_sem] theorem Cn.d2(c:Cn):(c.cs.drop 2).getD 0 (.v undef)=str c.s:=rfl
def faC(l:List Fa):List (List AV):=l.map Fa.cs
@[go_sem] theorem Am(l:List Fa):(faC l).length=l.length:=by simp[faC]
theorem Bc{l:List Fa}{i:Nat}(h:i<l.length):(faC l).getD i []=l[i].cs:=by simp[faC,List.getD_eq_getElem?_getD,h]
def boC(l:List (List Fa)):List (List AV):=l.map fun b=>[.sl 4 (faC b)]
@[go_sem] theorem Afv(l:List (List Fa)):(boC l).length=l.length:=by simp[boC]
theorem Sy{l:List (List Fa)}{i:Nat}(h:i<l.length):(boC l).getD i []=[.sl 4 (faC l[i])]:=by simp[boC,List.getD_eq_getElem?_getD,h]
def Fa.Sm(f:Fa):Prop:=f.ar.length≤1000000000000
section
variable{σ:St}
theorem Abb{α:Type}{c:α→α→Int}{l k:List α}{i:Nat}(h1:i<l.length)(h2:i<k.length):D5 c (l.drop i) (k.drop i)=if c l[i] k[i]=0 then D5 c (l.drop (i+1)) (k.drop (i+1))else c l[i] k[i]:=by
 rw[List.drop_eq_getElem_cons h1,List.drop_eq_getElem_cons h2];rfl
theorem Ux{α:Type}{c:α→α→Int}{l k:List α}{i:Nat}(h1:i≤l.length)(h2:i≤k.length)(h:¬(i<l.length∧i<k.length)):D5 c (l.drop i) (k.drop i)=if l.length<k.length then-1 else if k.length<l.length then 1 else 0:=by
 by_cases h3:i<l.length
 ·have h4:k.drop i=[]:=List.drop_of_length_le (by omega)
  rw[h4,List.drop_eq_getElem_cons h3,if_neg (by omega),if_pos (by omega)];rfl
 ·have h4:l.drop i=[]:=List.drop_of_length_le (by omega)
  rw[h4];by_cases h5:i<k.length
  ·rw[List.drop_eq_getElem_cons h5,if_pos (by omega)];rfl
  ·rw[List.drop_of_length_le (by omega),if_neg (by omega),if_neg (by omega)];rfl
end
abbrev Yu(l:Nat):AV:=.v (.func (.yield l) #[] #[])
theorem Tu{l n:Nat}{fr fr1:Fr}{σ1:St}{ps:List Nat}{assign body:Code}{k:AV→St→Prop}:AK.round l fr n ps assign body k .normal fr1 σ1=((∃p,σ1 l=some (.loop fr n ps assign body .busy p))∧k (.v (.bool true)) (σ1.set l (.loop fr n ps assign body .ready none))):=_root_.id rfl
theorem Su{P:Program}{l n:Nat}{fr fr1:Fr}{σ1:St}{ps:List Nat}{assign body B:Code}{k:AV→St→Prop}(hB:body=B):AK.begun P l fr n ps assign body k .normal fr1 σ1=(σ1 l=some (.loop fr n ps assign body .ready none)∧Aw P B (@hid _ ⟨AK.round l fr n ps assign body k⟩) fr1 (σ1.set l (.loop fr n ps assign body .busy none))):=by subst hB;rfl
theorem Qs{P:Program}{l n:Nat}{args:List AV}{σ:St}{k:AV→St→Prop}{fr:Fr}{ps:List Nat}{assign body A:Code}{pend:Option Code}(hA:assign=A)(hl:σ l=some (.loop fr n ps assign body .ready pend))(hn:args.length=ps.length)(hfl:(M5 assign&&M5 body)=true)
  (h:Aw P A (@hid _ ⟨AK.begun P l fr n ps assign body k⟩) (Ma fr ps args) σ):YC P l args σ k:=W0 hl hn hfl (by subst hA;exact h)
theorem Js{P:Program}{g:AV}{ps:List Nat}{A B:Code}{K:AK}{fr:Fr}{σ:St}(F:Fr→Prop)(hF:F fr)(h:∀assign body fr,assign=A→body=B→F fr→Ip P g ps assign body K fr σ):Ip P g ps A B K fr σ:=h A B fr rfl rfl hF
def OnI(τ:St)(d:Nat)(acc:List Fa)(σ:St):Prop:=τ d=none∧∃lv,σ d=some (.cells [lv])∧LAt 4 σ lv (faC acc)∧Cz τ σ lv
section
variable{τ σ σ':St}{d c e l:Nat}{acc:List Fa}{o o':Bn}
theorem OnI.start(hd:σ d=none):OnI σ d [] (σ.set d (.cells [Ax])):=⟨hd,Ax,Ab,.none,fun y o hy=>⟨A9 hd (fun _ _ h=>h) y o hy,Bu⟩⟩
theorem OnI.sub(h:OnI τ d acc σ){x:Nat}(hx:τ x=some o):σ x=some o:=by
 obtain⟨_,lv,_,_,h3⟩:=h;exact h3.sub x o hx
theorem OnI.ne(h:OnI τ d acc σ)(hc:σ c=none):c≠d:=fun e=>by
 obtain⟨_,lv,h1,_⟩:=h;rw[←e,hc]at h1;cases h1
theorem OnI.none(h:OnI τ d acc σ)(hc:σ c=none):τ c=none:=by
 cases hx:τ c with
 |none=>rfl
 |some o=>rw[h.sub hx]at hc;cases hc
theorem OnI.more(h:OnI τ d acc σ)(hs:∀x o,σ x=some o→σ' x=some o):OnI τ d acc σ':=by
 obtain⟨h0,lv,h1,h2,h3⟩:=h;exact⟨h0,lv,hs _ _ h1,h2.keep fun x o hx _=>hs x o hx,fun y o hy=>⟨hs _ _ (h3 y o hy).1,(h3 y o hy).2⟩⟩
theorem OnI.loop{fr:Fr}{n:Nat}{ps:List Nat}{A B:Code}{st:LoopState}{pend:Option Code}(h:OnI τ d acc σ)(hl:σ l=some (.loop fr n ps A B st pend))(ht:τ l=Option.none)(hs:∀y,y≠l→σ' y=σ y):OnI τ d acc σ':=by
 obtain⟨h0,lv,h1,h2,h3⟩:=h;have nl:¬Own lv l:=fun ho=>by obtain⟨cap,h⟩:=h2.own_rows ho;rw[hl]at h;cases h
 refine⟨h0,lv,?_,h2.keep fun x o hx ho=>?_,fun y o hy=>⟨?_,(h3 y o hy).2⟩⟩
 ·rw[hs d (fun e=>by rw[←e,h1]at hl;cases hl)];exact h1
 ·rw[hs x (by rintro rfl;exact nl ho)];exact hx
 ·rw[hs y (fun e=>by rw[e,ht]at hy;cases hy)];exact(h3 y o hy).1
theorem OnI.app{lv lv':AV}{σ8:St}{f:Fa}(hd0:τ d=Option.none)(h1:σ d=some (.cells [lv]))(h2:LAt 4 σ lv (faC acc))(h3:Cz τ σ lv)(hL4:LAt 4 σ8 lv' (faC acc++[f.cs]))(hs4:∀x o,σ x=some o→¬Own lv x→σ8 x=some o∧¬Own lv' x):
  OnI τ d (acc++[f]) (σ8.set d (.cells [lv']))∧σ8 d=some (.cells [lv]):=by
 have m1:=hs4 _ _ h1 (h2.not_own h1);have h3':=h3.step hs4;refine⟨⟨hd0,lv',Ab,?_,fun y o hy=>⟨?_,(h3' y o hy).2⟩⟩,m1.1⟩
 ·rw[show faC (acc++[f])=faC acc++[f.cs] by simp[faC]]
  exact hL4.keep fun y o hy ho=>by rw[Ad (by rintro rfl;exact m1.2 ho)];exact hy
 ·rw[Ad (fun e=>by rw[e,hd0]at hy;cases hy)]
  exact(h3' y o hy).1
end
abbrev nilQ:AV:=.v (.pointer none)
abbrev zE:Bn:=.cells [str emp,Ax,Ax,nilQ,nilQ,Ax,Ax,Ax,boo false]
def Nz(σ:St)(a:AV):Prop:=a=nilQ∨∃p,a=ptr p∧σ p=some zE
theorem Nz.new{σ:St}{a:AV}{c:Nat}{o:Bn}(h:Nz σ a)(hc:σ c=none):Nz (σ.set c o) a:=by
 rcases h with rfl|⟨p,rfl,h⟩
 ·exact .inl rfl
 ·exact .inr ⟨p,rfl,A9 hc (fun _ _ h=>h) _ _ h⟩
theorem Nz.one{σ:St}{a:AV}(h:Nz σ a):a.one=true:=by
 rcases h with rfl|⟨p,rfl,h⟩<;>rfl
theorem Nz.cells{σ:St}{a:AV}(h:Nz σ a):a.cells=[a]:=by
 rcases h with rfl|⟨p,rfl,h⟩<;>rfl
section
variable{σ:St}{a:AV}
theorem Da(h:Nz σ a):AT Tryz.prog 55 [a] σ fun r σ'=>r=boo true∧σ'=σ:=by
 refine AT.ob Tryz.func55 rfl ?_;rcases h with rfl|⟨p,rfl,h⟩
 ·simp only[go_sem,Aa]
  exact Ac (r:=boo true) rfl ⟨rfl,rfl⟩
 ·simp only[go_sem,Aa,h]
  exact Ac (r:=boo true) rfl ⟨rfl,rfl⟩
theorem Aax(h:Nz σ a)(f:Fa):AT Tryz.prog 16 [a,.agg f.cs] σ fun r σ'=>r=int 1∧σ'=σ:=by
 refine AT.ob Tryz.func16 rfl ?_;simp only[go_sem,Aa];refine Al fun c hc _=>?_;simp only[go_sem,Aa];refine(Da (h.new hc)).p ?_;simp only[go_sem,Aa];exact Ae (r:=int 1) rfl _ σ (Ao (A9 hc fun _ _ h=>h)) ⟨rfl,rfl⟩
theorem Aav(h:Nz σ a)(f:Fa):AT Tryz.prog 36 [a,.agg f.cs] σ fun r σ'=>r=int 1∧σ'=σ:=by
 refine AT.ob Tryz.func36 rfl ?_;simp only[go_sem,Aa];refine Al fun c hc _=>?_;simp only[go_sem,Aa];refine(Da (h.new hc)).p ?_;simp only[go_sem,Aa];exact Ae (r:=int 1) rfl _ σ (Ao (A9 hc fun _ _ h=>h)) ⟨rfl,rfl⟩
theorem Qt(h:Nz σ a)(f:Fa):AT Tryz.prog 33 [a,.agg f.cs] σ fun r σ'=>r=Ax∧σ'=σ:=by
 refine AT.ob Tryz.func33 rfl ?_;simp only[go_sem,Aa];refine Al fun c hc _=>?_;simp only[go_sem,Aa];refine(Da (h.new hc)).p ?_;simp only[go_sem,Aa];exact Ae (r:=Ax) rfl _ σ (Ao (A9 hc fun _ _ h=>h)) ⟨rfl,rfl⟩
theorem Aaw(h:Nz σ a)(f:Fa):AT Tryz.prog 35 [a,.agg f.cs] σ fun r σ'=>r=boo false∧σ'=σ:=by
 refine AT.ob Tryz.func35 rfl ?_;simp only[go_sem,Aa];refine Al fun c hc _=>?_;simp only[go_sem,Aa];refine Ag [.rd 0 false,.ef 1 [],.rd 2 false,.rd 3 false,.rd 4 false,.rd 5 false,.rd 6 false,.rd 7 true,.rd 8 true,.ef 9 [],.rd 10 false,.rd 11 false] ?_;simp only[go_sem,Aa];refine(Da (h.new hc)).p ?_;simp only[go_sem,Aa,Bool.not_true];exact Ae (r:=boo false) rfl _ σ (Ao (A9 hc fun _ _ h=>h)) ⟨rfl,rfl⟩
theorem Qu(h:Nz σ a):AT Tryz.prog 37 [a] σ fun r σ'=>r=boo false∧σ'=σ:=by
 refine AT.ob Tryz.func37 rfl ?_;simp only[go_sem,Aa];refine(Da h).p ?_;simp only[go_sem,Aa];exact Ac (r:=boo false) rfl ⟨rfl,rfl⟩
theorem Sf(h:Nz σ a):AT Tryz.prog 17 [a] σ fun r σ'=>r=int 0∧σ'=σ:=by
 refine AT.ob Tryz.func17 rfl ?_;simp only[go_sem,Aa];refine Fu 1 ?_;simp only[go_sem,Aa];refine(Qu h).p ?_;simp only[go_sem,Aa];exact Ac (r:=int 0) rfl ⟨rfl,rfl⟩
theorem W1(h:Nz σ a):AT Tryz.prog 21 [a] σ fun r σ'=>r=boo false∧σ'=σ:=by
 refine AT.ob Tryz.func21 rfl ?_;simp only[go_sem,Aa];refine(Da h).p ?_;simp only[go_sem,Aa,Bool.not_true];exact Ac (r:=boo false) rfl ⟨rfl,rfl⟩
theorem Nu(h:Nz σ a):AT Tryz.prog 24 [a] σ fun r σ'=>r=int 0∧σ'=σ:=by
 refine AT.ob Tryz.func24 rfl ?_;simp only[go_sem,Aa];refine(Da h).p ?_;simp only[go_sem,Aa];exact Ac (r:=int 0) rfl ⟨rfl,rfl⟩
theorem Sg(h:Nz σ a):AT Tryz.prog 19 [a] σ fun r σ'=>r=fnv 60∧σ'=σ:=by
 refine AT.ob Tryz.func19 rfl ?_;simp only[go_sem,Aa];refine(Da h).p ?_;simp only[go_sem,Aa];exact Ac (r:=fnv 60) rfl ⟨rfl,rfl⟩
theorem Si(h:Nz σ a):AT Tryz.prog 26 [a] σ fun r σ'=>r=Ax∧σ'=σ:=by
 refine AT.ob Tryz.func26 rfl ?_;simp only[go_sem,Aa];refine(Da h).p ?_;simp only[go_sem,Aa];exact Ac (r:=Ax) rfl ⟨rfl,rfl⟩
theorem W2(h:Nz σ a):AT Tryz.prog 27 [a] σ fun r σ'=>r=Ax∧σ'=σ:=by
 refine AT.ob Tryz.func27 rfl ?_;simp only[go_sem,Aa];refine(Da h).p ?_;simp only[go_sem,Aa];exact Ac (r:=Ax) rfl ⟨rfl,rfl⟩
theorem Ns(h:Nz σ a):AT Tryz.prog 23 [a] σ fun r σ'=>r=Ax∧σ'=σ:=by
 refine AT.ob Tryz.func23 rfl ?_;simp only[go_sem,Aa,h.one,h.cells];refine Al fun c hc _=>?_;simp only[go_sem,Aa,h.one,h.cells,Ab];refine(Da (h.new hc)).p ?_;simp only[go_sem,Aa];exact Ae (r:=Ax) rfl _ σ (Ao (A9 hc fun _ _ h=>h)) ⟨rfl,rfl⟩
theorem Ais(y:AV):AT Tryz.prog 60 [y] σ fun r σ'=>r= .tup []∧σ'=σ:=by
 refine AT.ob Tryz.func60 rfl ?_;simp only[go_sem,Aa];exact Ac (r:=.tup []) rfl ⟨rfl,rfl⟩
theorem Yx:AT Tryz.prog 18 [fnv 60] σ fun r σ'=>r=Ax∧σ'=σ:=by
 refine AT.ob Tryz.func18 rfl ?_;simp only[go_sem,Aa];refine Al fun d hd _=>?_;simp only[go_sem,Aa];refine⟨by kernel_rfl,?_⟩;refine Js (fun fr=>fr 3=ptr d) rfl fun assign body fr hA hB f3=>?_;intro n l hl hlm;refine(Ais (Yu l)).mono ?_;rintro r σ1 ⟨rfl,rfl⟩;have hld:l≠d:=fun e=>by rw[e,Ab]at hl;cases hl
 have hsb:∀y o,σ y=some o→(((σ.set d (.cells [Ax])).set l (.loop fr n [9] assign body .ready none)).del l) y=some o:=fun y o hy=>by
  have h1:y≠d:=fun e=>by rw[e,hd]at hy;cases hy
  have h2:y≠l:=fun e=>by rw[Ad hld,←e,hy]at hl;cases hl
  simp only[St.del];rw[if_neg h2,Ad h2,Ad h1];exact hy
 have hdd:(((σ.set d (.cells [Ax])).set l (.loop fr n [9] assign body .ready none)).del l) d=some (.cells [Ax]):=by
  simp only[St.del];rw[if_neg hld.symm,Ad hld.symm,Ab]
 unfold Ij;rw[Ab];refine⟨(by intro h;cases h),?_⟩;unfold Nn
 dsimp only
 revert hsb hdd;generalize (((σ.set d (.cells [Ax])).set l (.loop fr n [9] assign body .ready none)).del l)=σ5;intro hsb hdd;simp only[go_sem,Aa,f3,hdd];exact Ae (r:=Ax) rfl _ σ (Ao hsb) ⟨rfl,rfl⟩
set_option maxHeartbeats 1600000 in
theorem evalNone_at(hlive:∀σ,AT Tryz.prog 12 [] σ fun r σ'=>r=boo true∧σ'=σ)(f:Fa):AT Tryz.prog 9 [.agg f.cs] σ fun v σ'=>v=boo true:=by
 refine AT.ob Tryz.func9 rfl ?_;simp only[go_sem];refine Al fun c hc0 _=>?_;simp only[go_sem];refine Al fun z hz _=>?_;have hcz:c≠z:=fun e=>by rw[←e,Ab]at hz;cases hz
 have hz1:=Ab (σ:=σ.set c (.cells f.cs)) (b:=z) (o:=zE);have hc1:((σ.set c (.cells f.cs)).set z zE) c=some (.cells f.cs):=by rw[Ad hcz,Ab]
 simp only[go_sem];revert hz1 hc1;generalize ((σ.set c (.cells f.cs)).set z zE)=σ2;intro hz1 hc1;refine⟨fun m fr σ'=>∃i:Nat,m=2-i∧i≤2∧σ'=σ2∧fr 1=ptr c∧fr 6= .agg [nilQ,ptr z]∧fr 7=int i,⟨_,0,rfl,by omega,rfl,rfl,rfl,rfl⟩,?_⟩;rintro m fr σ3 ⟨i,rfl,hi,rfl,f1,f6,f7⟩;have h1:Nz σ3 nilQ:=.inl rfl;have h2:Nz σ3 (ptr z):=.inr ⟨z,rfl,hz1⟩;have hc:=hc1;by_cases g:i<2
 ·have d1:=decide_eq_true (show(i:Int)<2 by omega)
  rcases(show i=0∨i=1 by omega)with rfl|rfl
  case' inl=>simp only[go_sem,Aa,f1,f6,f7,d1]
  case' inr=>simp only[go_sem,Aa,f1,f6,f7,d1]
  all_goals
  refine Uj [⟨0,32,1024,0⟩,⟨0,2,2048,1⟩,⟨3,3072,4096,2⟩,⟨4,4096,8192,0⟩,⟨12,8192,16384,0⟩,⟨16,16416,32768,0⟩,⟨16,16386,65536,1⟩,⟨112,114688,131072,2⟩,⟨144,147456,262144,0⟩,⟨272,278528,524288,0⟩,⟨640,524288,1048576,0⟩,⟨1024,1048608,2097152,0⟩,⟨3072,3145728,4194304,2⟩,⟨5120,5242880,8388608,0⟩,⟨12288,8388608,16777216,0⟩,⟨16384,16777248,33554432,0⟩,⟨49152,50331648,67108864,2⟩,⟨81920,83886080,134217728,0⟩,⟨147456,150994944,268435456,0⟩,⟨327680,268435456,536870912,0⟩,⟨524288,536870944,1073741824,0⟩,⟨524288,536870914,2147483648,1⟩,⟨3670016,3758096384,4294967296,2⟩,⟨4718592,4831838208,8589934592,0⟩,⟨12582912,8589934592,17179869184,0⟩,⟨16777216,17179869216,34359738368,0⟩,⟨50331648,51539607552,68719476736,2⟩,⟨83886080,85899345920,137438953472,0⟩,⟨201326592,137438953472,274877906944,0⟩,⟨268435456,274877906976,549755813888,0⟩,⟨805306368,824633720832,1099511627776,2⟩,⟨1342177280,1374389534720,2199023255552,0⟩,⟨2415919104,2473901162496,4398046511104,0⟩,⟨5368709120,4398046511104,8796093022208,0⟩,⟨8589934592,8796093022240,17592186044416,0⟩,⟨25769803776,26388279066624,35184372088832,2⟩,⟨42949672960,43980465111040,70368744177664,2⟩,⟨77309411328,79164837199872,140737488355328,0⟩,⟨8589934592,8796093022240,281474976710656,0⟩,⟨352187318272,290271069732864,562949953421312,2⟩,⟨558345748480,571746046443520,1125899906842624,0⟩,⟨1245540515840,1275433488220160,2251799813685248,0⟩,⟨8589934592,8796093022240,4503599627370496,0⟩,⟨4956392259584,4512395720392704,9007199254740992,2⟩,⟨8804682956800,9015995347763200,18014398509481984,0⟩,⟨19799799234560,20274994416189440,36028797018963968,0⟩,⟨8589934592,8796093022240,72057594037927936,0⟩,⟨79173427134464,72066390130950144,144115188075855872,2⟩,⟨140746078289920,144123984168878080,288230376151711744,0⟩,⟨316667938734080,324267969263697920,576460752303423488,0⟩,⟨8589934592,8796093022240,1152921504606846976,0⟩,⟨8589934592,8796093022210,2305843009213693952,1⟩,⟨3518445798817792,3458773309913563136,4611686018427387904,2⟩,⟨4503608217305088,4611694814520410112,9223372036854775808,0⟩,⟨9570157798096896,9799841585251221504,18446744073709551616,0⟩,⟨18014407099416576,18446752869802573824,36893488147419103232,0⟩,⟨36028805608898560,36893496943512125440,73786976294838206464,0⟩] [0,0,3,7,15,31,31,127,255,511,1023,2047,4095,8191,16383,32767,65535,131071,262143,524287,1048575,1048575,4194303,8388607,16777215,33554431,67108863,134217727,268435455,536870911,1073741823,2147483647,4294967295,8589934591,17179869183,34359738367,68719476735,137438953471,17179869183,412316860415,962072674303,2199023255551,17179869183,5360119185407,14156212207615,35184372088831,17179869183,84524956385279,225262444740607,562949953421311,17179869183,17179869183,3602962165268479,8106561792638975,18014398509481983,36028797018963967,72057594037927935] [.rd 0 false,.rd 1 true,.ef 2 [],.rd 3 false,.rd 4 false,.rd 5 false,.rd 6 true,.ef 7 [],.rd 8 false,.rd 9 false,.rd 10 false,.rd 11 false,.ef 12 [],.rd 13 false,.rd 14 false,.rd 15 false,.ef 16 [],.rd 17 false,.rd 18 false,.rd 19 false,.rd 20 false,.rd 21 true,.ef 22 [],.rd 23 false,.rd 24 false,.rd 25 false,.ef 26 [],.rd 27 false,.rd 28 false,.rd 29 false,.ef 30 [],.rd 31 false,.rd 32 false,.rd 33 false,.rd 34 false,.rd 38 false,.rd 42 false,.rd 46 false,.rd 50 false,.rd 51 true,.ef 35 [51],.ef 36 [51],.rd 37 false,.ef 39 [51],.rd 40 false,.rd 41 false,.ef 43 [51],.rd 44 false,.rd 45 false,.ef 47 [51],.rd 48 false,.rd 49 false,.ef 52 [],.rd 53 false,.rd 54 false,.rd 55 false,.rd 56 false] (by kernel_rfl) (by kernel_rfl) (by kernel_rfl) (by kernel_rfl) (by kernel_rfl) ?_;simp only[go_sem,Aa,f1,hc]
  first|refine(Aax h1 f).mono ?_|refine(Aax h2 f).mono ?_
  rintro _ σ3 ⟨rfl,rfl⟩;simp only[go_sem,Aa,f1,hc]
  first|refine(Aav h1 f).mono ?_|refine(Aav h2 f).mono ?_
  rintro _ σ3 ⟨rfl,rfl⟩;simp only[go_sem,Aa,f1,hc]
  first|refine(Qu h1).mono ?_|refine(Qu h2).mono ?_
  rintro _ σ3 ⟨rfl,rfl⟩;simp only[go_sem,Aa,f1,hc]
  first|refine(Sf h1).mono ?_|refine(Sf h2).mono ?_
  rintro _ σ3 ⟨rfl,rfl⟩;simp only[go_sem,Aa,f1,hc]
  first|refine(Aaw h1 f).mono ?_|refine(Aaw h2 f).mono ?_
  rintro _ σ3 ⟨rfl,rfl⟩;simp only[go_sem,Aa,f1,hc]
  first|refine(W1 h1).mono ?_|refine(W1 h2).mono ?_
  rintro _ σ3 ⟨rfl,rfl⟩;simp only[go_sem,Aa,f1,hc]
  first|refine(Nu h1).mono ?_|refine(Nu h2).mono ?_
  rintro _ σ3 ⟨rfl,rfl⟩;simp only[go_sem,Aa,f1,hc]
  first|refine(Sg h1).mono ?_|refine(Sg h2).mono ?_
  rintro _ σ3 ⟨rfl,rfl⟩;simp only[go_sem,Aa,f1,hc];refine Yx.p ?_;simp only[go_sem,Aa,f1,hc]
  first|refine(Si h1).mono ?_|refine(Si h2).mono ?_
  rintro _ σ3 ⟨rfl,rfl⟩;simp only[go_sem,Aa,f1,hc]
  first|refine(Ns h1).mono ?_|refine(Ns h2).mono ?_
  rintro _ σ3 ⟨rfl,rfl⟩;simp only[go_sem,Aa,f1,hc]
  first|refine(W2 h1).mono ?_|refine(W2 h2).mono ?_
  rintro _ σ3 ⟨rfl,rfl⟩;simp only[go_sem,Aa,f1,hc]
  first|refine(Qt h1 f).mono ?_|refine(Qt h2 f).mono ?_
  rintro _ σ3 ⟨rfl,rfl⟩;simp only[go_sem,Aa,f1,hc];have wz:IntKind.i64.wrap ((0:Int)+0)=0:=by decide
  simp only[go_sem,Aa,wz,decide_true,f7];have w1:IntKind.i64.wrap ((0:Int)+1)=1:=by decide
  have w2:IntKind.i64.wrap ((1:Int)+1)=2:=by decide
  first|exact⟨1,by omega,1,rfl,by omega,f1,f6,by rw[w1];rfl⟩|exact⟨0,by omega,2,rfl,by omega,f1,f6,by rw[w2];rfl⟩
 ·have d1:=decide_eq_false (show¬(i:Int)<2 by omega)
  simp only[go_sem,Aa,f7,d1];refine(hlive _).p ?_;simp only[go_sem,Aa];exact Ac (r:=boo true) rfl rfl
end
open Go Go.Av Go.Sort
abbrev u64(n:Nat):AV:=.v (.int .u64 (n:Int))
theorem Gw{x:Nat}(h:2≤x):bitsLen x=bitsLen (x/2)+1:=by
 unfold bitsLen;rw[if_neg (by omega),if_neg (by omega),Nat.log2_def,if_pos h]
theorem Kn{x:Nat}(h:256≤x):bitsLen x=bitsLen (x/256)+8:=by
 rw[Gw (by omega),Gw (x:=x/2) (by omega),Gw (x:=x/2/2) (by omega),Gw (x:=x/2/2/2) (by omega),Gw (x:=x/2/2/2/2) (by omega),Gw (x:=x/2/2/2/2/2) (by omega),Gw (x:=x/2/2/2/2/2/2) (by omega),Gw (x:=x/2/2/2/2/2/2/2) (by omega)];rw[show x/2/2/2/2/2/2/2/2=x/256 by omega]
theorem Aak(x k:Nat):((x:Int)).fdiv (2^k)=((x/2^k:Nat):Int):=by
 rw[Int.fdiv_eq_ediv_of_nonneg _ (Int.le_of_lt (Int.pow_pos (by decide)))]
 norm_cast
theorem Aiv{z:Nat}(h:z<256):bitsLen z≤8:=by
 have:∀z,z<256→bitsLen z≤8:=by decide+kernel
 exact this z h
theorem Sw{z:Nat}(h:z<281474976710656):bitsLen z≤48:=by
 unfold bitsLen;split
 ·omega
 ·rename_i h0
  have:=(Nat.log2_lt (n:=z) (k:=48) (by omega)).2 h;omega
theorem Aly{x:Nat}(h:4294967296≤x):bitsLen x=bitsLen (x/4294967296)+32:=by
 rw[Kn (by omega),Kn (x:=x/256) (by omega),Kn (x:=x/256/256) (by omega),Kn (x:=x/256/256/256) (by omega)];rw[show x/256/256/256/256=x/4294967296 by omega]
def Ajl:List UInt8:=(List.range 256).map fun x=>UInt8.ofNat (bitsLen x)
theorem Ad9{z:Nat}(h:z<256)(T:List UInt8)(hT:T=Ajl):(T.getD z 0).toNat=bitsLen z:=by
 subst hT;have:=Aiv h;simp only[Ajl,List.getD_eq_getElem?_getD,List.getElem?_map,List.getElem?_range h,Option.map_some,Option.getD_some];rw[UInt8.toNat_ofNat'];omega
theorem Mn(n:Nat):IntKind.u64.wrap (n:Int)=((n % 18446744073709551616:Nat):Int):=by
 unfold IntKind.wrap;simp[IntKind.bits,IntKind.signed]
theorem ofI(n:Nat):(BitVec.ofInt 64 (n:Int)).toNat=n % 18446744073709551616:=by
 rw[BitVec.ofInt_natCast,BitVec.toNat_ofNat]
theorem xs_l(s:UInt64)(k:Nat)(hk:k<64):IntKind.u64.wrap ((BitVec.ofInt 64 (s.toNat:Int)^^^BitVec.ofInt 64 (IntKind.u64.wrap ((s.toNat:Int)*2^k))).toNat:Int)=(((s^^^s<<<UInt64.ofNat k).toNat:Nat):Int):=by
 have h0:((s.toNat:Int)*2^k)=((s.toNat*2^k:Nat):Int):=by push_cast;rfl
 have h1:=s.toNat_lt;have hk':(UInt64.ofNat k).toNat % 64=k:=by rw[UInt64.toNat_ofNat'];omega
 rw[h0,Mn,Mn,BitVec.toNat_xor,ofI,ofI,UInt64.toNat_xor,UInt64.toNat_shiftLeft,hk',Nat.shiftLeft_eq];rw[Nat.mod_eq_of_lt (a:=s.toNat) (by omega),Nat.mod_mod];rw[Nat.mod_eq_of_lt (Nat.xor_lt_two_pow (n:=64) (by omega) (Nat.mod_lt _ (by decide)))]
theorem xs_r(s:UInt64)(k:Nat)(hk:k<64):IntKind.u64.wrap ((BitVec.ofInt 64 (s.toNat:Int)^^^BitVec.ofInt 64 (((s.toNat:Int)).fdiv (2^k))).toNat:Int)=(((s^^^s>>>UInt64.ofNat k).toNat:Nat):Int):=by
 have h1:=s.toNat_lt;have hk':(UInt64.ofNat k).toNat % 64=k:=by rw[UInt64.toNat_ofNat'];omega
 have h2:s.toNat/2^k≤s.toNat:=Nat.div_le_self _ _;rw[Aak,Mn,BitVec.toNat_xor,ofI,ofI,UInt64.toNat_xor,UInt64.toNat_shiftRight,hk',Nat.shiftRight_eq_div_pow];rw[Nat.mod_eq_of_lt (a:=s.toNat) (by omega),Nat.mod_eq_of_lt (a:=s.toNat/2^k) (by omega)];rw[Nat.mod_eq_of_lt (Nat.xor_lt_two_pow (n:=64) (by omega) (by omega))]
section
variable{σ:St}
theorem Ad8{x:Nat}(h:x<281474976710656):AT Tryz.prog 208 [u64 x] σ fun r σ'=>r=int (bitsLen x)∧σ'=σ:=by
 refine AT.ob Tryz.func208 rfl ?_;simp only[go_sem];refine D8 (fun fr σ'=>∃y k:Nat,y<4294967296∧k≤32∧bitsLen x=bitsLen y+k∧fr 0=u64 y∧fr 2=int k∧σ'=σ) (fun g1=>?_) (fun g1=>?_) ?_
 ·have e1:((x:Int)).fdiv (2^min 32 64)=((x/4294967296:Nat):Int):=Aak x 32
  simp only[go_sem,e1];exact⟨x/4294967296,32,by omega,by omega,Aly (by omega),rfl,rfl⟩
 ·simp only[go_sem]
  exact⟨x,0,by omega,by omega,rfl,rfl,rfl⟩
 rintro fr σ1 ⟨w,k0,hw,hk0,he0,f0,f2,rfl⟩;rw[he0];clear h he0;simp only[go_sem,f0,f2];refine D8 (fun fr σ'=>∃y k:Nat,y<65536∧k≤48∧bitsLen w+k0=bitsLen y+k∧fr 0=u64 y∧fr 2=int k∧σ'=σ1) (fun g1=>?_) (fun g1=>?_) ?_
 ·have e1:((w:Int)).fdiv (2^min 16 64)=((w/65536:Nat):Int):=Aak w 16
  have e2:IntKind.i64.wrap ((k0:Int)+16)=((k0+16:Nat):Int):=by rw[Ai (by omega)];omega
  simp only[go_sem,f0,f2,e1,e2];refine⟨w/65536,k0+16,by omega,by omega,?_,rfl,rfl⟩;rw[Kn (by omega),Kn (x:=w/256) (by omega),show w/256/256=w/65536 by omega];omega
 ·simp only[go_sem,f0,f2]
  exact⟨w,k0,by omega,by omega,rfl,rfl,rfl⟩
 rintro fr σ1 ⟨y,k,hy,hk,he,f0,f2,rfl⟩;rw[he];clear he;simp only[go_sem,f0,f2];refine D8 (fun fr σ'=>∃z l:Nat,z<256∧l≤56∧bitsLen y+k=bitsLen z+l∧fr 0=u64 z∧fr 2=int l∧σ'=σ1) (fun g1=>?_) (fun g1=>?_) ?_
 ·have e1:((y:Int)).fdiv (2^min 8 64)=((y/256:Nat):Int):=Aak y 8
  have e2:IntKind.i64.wrap ((k:Int)+8)=((k+8:Nat):Int):=by rw[Ai (by omega)];omega
  simp only[go_sem,f0,f2,e1,e2];refine⟨y/256,k+8,by omega,by omega,?_,rfl,rfl⟩;rw[Kn (by omega)];omega
 ·simp only[go_sem,f0,f2]
  exact⟨y,k,by omega,by omega,rfl,rfl,rfl⟩
 rintro fr σ2 ⟨z,l,hz,hl,he,f0,f2,rfl⟩;rw[he];have e3:IntKind.u8.wrap (z:Int)=(z:Int):=Amz (by omega);simp only[go_sem,f0,f2,e3];refine⟨Int.lt_of_lt_of_le (show(z:Int)<256 by omega) (by decide+kernel),_,rfl,_,_,Ey.refl _ _,?_,rfl⟩;refine(congrArg (fun v:Nat=>AV.v (Value.int .i64 (IntKind.i64.wrap ((l:Int)+IntKind.i64.wrap (v:Int))))) (Ad9 hz _ (by kernel_rfl))).trans ?_;have:=Aiv hz;show int (IntKind.i64.wrap ((l:Int)+IntKind.i64.wrap ((bitsLen z:Nat):Int)))=_;rw[Ai (x:=((bitsLen z:Nat):Int)) (by omega),Ai (by omega)];show AV.v (Value.int .i64 ((l:Int)+(bitsLen z:Nat)))=AV.v (Value.int .i64 ((bitsLen z+l:Nat):Int));rw[Int.natCast_add,Int.add_comm]
theorem Pw{x:Nat}(h:x<281474976710656):AT Tryz.prog 162 [u64 x] σ fun r σ'=>r=int (bitsLen x)∧σ'=σ:=by
 refine AT.ob Tryz.func162 rfl ?_;simp only[go_sem];refine(Ad8 h).p ?_;simp only[go_sem];exact Ac (r:=int (bitsLen x)) rfl ⟨rfl,rfl⟩
theorem Ah5{x:Nat}(h:x<281474976710656):AT Tryz.prog 229 [int x] σ fun r σ'=>r=u64 (1<<<bitsLen x)∧σ'=σ:=by
 refine AT.ob Tryz.func229 rfl ?_;have e1:IntKind.u64.wrap (x:Int)=(x:Int):=by
  unfold IntKind.wrap;simp[IntKind.bits,IntKind.signed];omega
 simp only[go_sem,e1];refine(Pw h).p ?_;have hb:=Sw h;have e2:IntKind.u64.wrap (1*2^min (bitsLen x) 64)=((1<<<bitsLen x:Nat):Int):=by
  rw[Nat.min_eq_left (by omega),Nat.one_shiftLeft];have h1:2^bitsLen x≤2^48:=Nat.pow_le_pow_right (by decide) hb;have h2:(1:Int)*2^bitsLen x=((2^bitsLen x:Nat):Int):=by push_cast;omega
  rw[h2,Mn];generalize 2^bitsLen x=y at h1⊢;omega
 simp only[go_sem,e2];exact Ac (r:=u64 (1<<<bitsLen x)) rfl ⟨rfl,rfl⟩
theorem Ah0{p:Nat}{s:UInt64}(hp:σ p=some (.cells [u64 s.toNat])):AT Tryz.prog 230 [.v (.pointer (some ⟨p,0,none⟩))] σ fun r σ'=>r=u64 (xorNext s).toNat∧σ'=σ.set p (.cells [u64 (xorNext s).toNat]):=by
 refine AT.ob Tryz.func230 rfl ?_;have e:xorNext s=((s^^^s<<<13)^^^(s^^^s<<<13)>>>7)^^^((s^^^s<<<13)^^^(s^^^s<<<13)>>>7)<<<17:=rfl;rw[e];simp only[go_sem];refine Ag [.rd 0 false,.rd 1 false,.rd 2 true,.rd 3 false,.rd 4 false,.rd 5 true,.rd 6 false,.rd 7 false,.rd 8 false,.ef 9 []] ?_;have a1:∀s:UInt64,bxor .u64 (s.toNat:Int) (IntKind.u64.wrap ((s.toNat:Int)*2^min 13 64))=(((s^^^s<<<13).toNat:Nat):Int):=fun s=>xs_l s 13 (by decide);have a2:∀s:UInt64,bxor .u64 (s.toNat:Int) (((s.toNat:Int)).fdiv (2^min 7 64))=(((s^^^s>>>7).toNat:Nat):Int):=fun s=>xs_r s 7 (by decide);have a3:∀s:UInt64,bxor .u64 (s.toNat:Int) (IntKind.u64.wrap ((s.toNat:Int)*2^min 17 64))=(((s^^^s<<<17).toNat:Nat):Int):=fun s=>xs_l s 17 (by decide);simp only[go_sem,hp,a1];refine Ag [.rd 0 false,.rd 1 false,.rd 2 true,.rd 3 false,.rd 4 false,.rd 5 true,.rd 6 false,.rd 7 false,.rd 8 false,.ef 9 []] ?_;simp only[go_sem,Ab,a2];refine Ag [.rd 0 false,.rd 1 false,.rd 2 true,.rd 3 false,.rd 4 false,.rd 5 true,.rd 6 false,.rd 7 false,.rd 8 false,.ef 9 []] ?_;simp only[go_sem,Ab,a3];exact Ac (r:=u64 _) rfl ⟨rfl,rfl⟩
end
section
variable{ag byt:Bool}{sz q eby b n c l h:Nat}{zr ez:List Value}{ik:IntKind}{σ:St}{K:AV→Prop}{k:AV→St→Prop}
theorem Ba{p:Nat}(hp:p=l*q)(h0:l≤n)(hn:n≤c)(hlc:l<c)(hk:K (.v (.slice (some ⟨b,p,none⟩) (n-l) (c-l)))):aSli (some ⟨ag,sz,zr,.sl q eby ez byt⟩) σ (slv b n c) (some (.v (.int ik l))) .none .none K:=by
 subst hp;refine .inl ⟨b,0,n,c,rfl,l,n,c,rfl,rfl,.inl ⟨rfl,rfl⟩,by omega,by omega,by omega,by omega,?_⟩;have e:Fl (c:Int).toNat (l:Int).toNat 0 q=l*q:=by
  unfold Fl;rw[if_neg (by simp;omega)];simp
 rw[e];simpa using hk
theorem Ia(h0:h≤n)(hn:n≤c)(hk:K (slv b h c)):aSli (some ⟨ag,sz,zr,.sl q eby ez byt⟩) σ (slv b n c) .none (some (.v (.int ik h))) .none K:=by
 refine .inl ⟨b,0,n,c,rfl,0,h,c,rfl,rfl,.inl ⟨rfl,rfl⟩,by omega,by omega,by omega,by omega,?_⟩;have e:Fl (c:Int).toNat (0:Int).toNat 0 q=0:=by
  unfold Fl;split<;>simp
 rw[e];simpa using hk
theorem Gh{m cc p:Nat}{j:Int}(hp:p=l*q)(hq:0<q)(h0:0≤j)(h1:j<m)(hk:K (.rp b q (l+j.toNat) 0)):Dy (some ⟨ag,sz,zr,.sl q eby ez byt⟩) σ (.v (.slice (some ⟨b,p,none⟩) m cc)) (.v (.int ik j)) K:=by
 subst hp;show(l*q)% q=0∧0≤j∧j<m∧K (.rp b q (l*q/q+j.toNat) 0);rw[Nat.mul_mod_left,Nat.mul_div_cancel _ hq];exact⟨rfl,h0,h1,hk⟩
theorem Hg{m cc cap p:Nat}{es:List (List AV)}(hp:p=l*q)(hb:σ b=some (.rows q es false cap))(hq:0<q)(hm:0<m)(hl:l+m≤es.length)(hz:ez.all Value.oneCell'=true)(hk:k (.tup []) (σ.set b (.rows q (es.take l++List.replicate m (ez.map .v)++es.drop (l+m)) false cap))):
  aClear (some ⟨ag,sz,zr,.sl q eby ez byt⟩) σ (.v (.slice (some ⟨b,p,none⟩) m cc)) k:=by
 subst hp;simp only[aClear];rw[if_neg (by omega)];simp only[hb,Nat.mul_div_cancel _ hq];exact⟨trivial,hq,Nat.mul_mod_left _ _,hl,hz,hk⟩
theorem Ht{es:List (List AV)}{cap m:Nat}(r:AV)(hb:σ b=some (.rows q es false cap)):Ey σ r (σ.set b (.rows q (es.take m) false cap)) r:=fun F w x hs hv=>by
 refine⟨F,⟨.refl F w,rfl,rfl,rfl,Nat.le_refl _,fun y _ hy=>⟨rfl,?_,rfl⟩⟩,⟨fun y o hy=>?_,hs.lt⟩,hv⟩
 ·rw[Ad (fun e=>by rw[e,hb]at hy;cases hy)];exact hy
 ·by_cases e:y=b
  ·subst e
   rw[Ab]at hy;injection hy with hy;subst hy;obtain⟨c,e,m',g1,g2,g3,g4,g5,g6,g7⟩:=hs.obj y _ hb;refine⟨c,e,m',g1,g2,by simp;omega,fun x hx=>g4 x (List.mem_of_mem_take hx),g5,g6,fun i j hi hj=>?_⟩;have hi':i<es.length:=by simp at hi;omega
   have:(es.take m).getD i []=es.getD i []:=by
    simp only[List.getD_eq_getElem?_getD];rw[List.getElem?_take_of_lt (by simp at hi;omega)]
   rw[this];exact g7 i j hi' hj
  ·rw[Ad e]at hy
   exact hs.obj y o hy
end
def Eh{α:Type}(e:α→α→Bool):α→List α→List α
 |_,[]=>[]
 |p,y::l=>if e y p=true then Eh e y l else y::Eh e y l
def Cl{α:Type}(e:α→α→Bool):List α→List α
 | []=>[]
 |x::l=>x::Eh e x l
theorem Db{α:Type}{e:α→α→Bool}{p y:α}{l:List α}:Eh e p (y::l)=if e y p=true then Eh e y l else y::Eh e y l:=rfl
theorem Pb{α:Type}{e:α→α→Bool}{l:List α}(h:0<l.length):Cl e l=l.take 1++Eh e l[0] (l.drop 1):=by
 cases l with
 |nil=>simp at h
 |cons x l=>rfl
theorem O9{α:Type}{e:α→α→Bool}{l:List α}(h:l.length<2):Cl e l=l:=by
 match l,h with
 | [],_=>rfl
 | [x],_=>rfl
 |x::y::l,h=>simp at h;omega
theorem U0{α:Type}(e:α→α→Bool):∀(l:List α) (p:α),(Eh e p l).length≤l.length
 | [],_=>by simp[Eh]
 |y::l,p=>by
  unfold Eh;have:=U0 e l y;split<;>simp only[List.length_cons]<;>omega
theorem O8{α:Type}(e:α→α→Bool)(l:List α):(Cl e l).length≤l.length:=by
 cases l with
 |nil=>simp[Cl]
 |cons x l=>have:=U0 e l x;simp only[Cl,List.length_cons];omega
section
variable{σ:St}
theorem Xt(g:Nat):AT Tryz.prog 199 [Ax,int 0,int 0,fnv g] σ fun _ σ'=>σ'=σ:=by
 refine AT.ob Tryz.func199 rfl ?_;have w:IntKind.i64.wrap (0+1)=1:=by rw[Ai (by omega)];rfl
 simp only[go_sem,Aa,w];refine Fu 1 ?_;simp only[go_sem,Aa];exact Ac (r:=.tup []) rfl rfl
theorem X9(g:Nat)(lim:Nat):AT Tryz.prog 161 [Ax,int 0,int 0,int lim,fnv g] σ fun _ σ'=>σ'=σ:=by
 refine AT.ob Tryz.func161 rfl ?_;have w:IntKind.i64.wrap (0-0)=0:=by rw[Ai (by omega)];rfl
 simp only[go_sem,Aa];refine Fu 1 ?_;simp only[go_sem,Aa,w];refine(Xt g).mono ?_;rintro _ _ rfl;simp only[go_sem,Aa];exact Ac (r:=.tup []) rfl rfl
theorem Wi(g:Nat):AT Tryz.prog 102 [Ax,fnv g] σ fun _ σ'=>σ'=σ:=by
 refine AT.ob Tryz.func102 rfl ?_;have w1:IntKind.u64.wrap (0:Int)=(0:Int):=by simp[IntKind.wrap,IntKind.signed,IntKind.bits]
 simp only[go_sem,w1];refine(Pw (x:=0) (by omega)).p ?_;simp only[go_sem];refine(X9 g _).mono ?_;rintro _ _ rfl;simp only[go_sem];exact Ac (r:=.tup []) rfl rfl
end
section
variable{σ:St}
def SmB(b:List Fa):Prop:=b.length≤1000000000000∧∀x∈b,x.Sm
end
section
variable{α:Type}{c:α→α→Int}
def Cp(c:α→α→Int)(l:List α):Prop:=l.Pairwise fun x y=>c x y<0
def By(c:α→α→Int)(b:α):List α→List α
 | []=>[b]
 |x::l=>if c x b<0 then x::By c b l else if c x b=0 then x::l else b::x::l
theorem Fq(h:Fo c){b y:α}:∀{l:List α},y∈By c b l↔y=b∨y∈l
 | []=>by simp[By]
 |x::l=>by
  unfold By;split
  ·rw[List.mem_cons,Fq h,List.mem_cons]
   constructor<;>rintro(h|h|h)<;>simp[h]
  ·split
   ·rename_i h0
    have:=(h.zero x b).1 h0;subst this;simp
   ·simp
theorem Fv(h:Fo c){b:α}:∀{l:List α},Cp c l→Cp c (By c b l)
 | [],_=>by simp[By,Cp]
 |x::l,hl=>by
  obtain⟨h1,h2⟩:=List.pairwise_cons.1 hl;unfold By;split
  ·rename_i hx
   refine List.pairwise_cons.2 ⟨fun y hy=>?_,Fv h h2⟩;rcases(Fq h).1 hy with rfl|hy
   ·exact hx
   ·exact h1 y hy
  ·split
   ·exact hl
   ·rename_i hx h0
    have hb:c b x<0:=(h.anti b x).2 (by omega)
    exact List.pairwise_cons.2 ⟨fun y hy=>by
     rcases List.mem_cons.1 hy with rfl|hy
     ·exact hb
     ·exact h.trans _ _ _ hb (h1 y hy),hl⟩
theorem Og{b:α}:∀{l:List α},(By c b l).length≤l.length+1
 | []=>by simp[By]
 |x::l=>by
  unfold By;have:=Og (b:=b) (l:=l);split
  ·simp only[List.length_cons];omega
  ·split<;>simp
theorem I4{b:α}:∀{l:List α} {k:Nat},k≤l.length→(∀i (hi:i<k) (hl:i<l.length),c l[i] b<0)→(∀hk:k<l.length,¬c l[k] b<0)→
  By c b l=if(∃hk:k<l.length,c l[k] b=0)then l else l.take k++b::l.drop k
 | [],k,hk,_,_=>by
  have:k=0:=by simpa using hk
  subst this;rw[if_neg (by rintro⟨h,_⟩;simp at h)];simp[By]
 |x::l,0,hk,h1,h2=>by
  unfold By;have hx:¬c x b<0:=h2 (by simp);rw[if_neg hx];by_cases h0:c x b=0
  ·rw[if_pos h0,if_pos ⟨by simp,h0⟩]
  ·rw[if_neg h0,if_neg (by rintro⟨_,h⟩;exact h0 h)]
   simp
 |x::l,k+1,hk,h1,h2=>by
  unfold By;rw[if_pos (show c x b<0 from h1 0 (by omega) (by simp)),I4 (l:=l) (k:=k) (by simpa using hk) (fun i hi hl=>h1 (i+1) (by omega) (by simpa using hl)) (fun hk=>h2 (by simpa using hk))];by_cases h0:∃hk:k<l.length,c l[k] b=0
  ·obtain⟨g1,g2⟩:=h0
   rw[if_pos ⟨g1,g2⟩,if_pos ⟨by simpa using g1,g2⟩]
  ·rw[if_neg h0,if_neg (by rintro⟨g1,g2⟩;exact h0 ⟨by simpa using g1,g2⟩)]
   simp
theorem Ng(h:Fo c):∀{l k:List α},Cp c l→Cp c k→(∀y,y∈l↔y∈k)→l=k
 | [],[],_,_,_=>rfl
 | [],y::k,_,_,hm=>by have:=(hm y).2 (by simp);cases this
 |x::l,[],_,_,hm=>by have:=(hm x).1 (by simp);cases this
 |x::l,y::k,hl,hk,hm=>by
  obtain⟨h1,h2⟩:=List.pairwise_cons.1 hl;obtain⟨k1,k2⟩:=List.pairwise_cons.1 hk;have irr:∀z,¬c z z<0:=fun z hz=>by rw[h.self]at hz;omega
  have hxy:x=y:=by
   rcases List.mem_cons.1 ((hm x).1 (by simp))with e|e
   ·exact e
   ·rcases List.mem_cons.1 ((hm y).2 (by simp))with e'|e'
    ·exact e'.symm
    ·exact absurd (h.trans _ _ _ (k1 x e) (h1 y e')) (irr _)
  subst hxy;have nl:x∉l:=fun hx=>irr _ (h1 x hx);have nk:x∉k:=fun hx=>irr _ (k1 x hx);rw[Ng h h2 k2 fun y=>?_];constructor
  ·intro hy
   rcases List.mem_cons.1 ((hm y).1 (List.mem_cons_of_mem _ hy))with e|e
   ·subst e;exact absurd hy nl
   ·exact e
  ·intro hy
   rcases List.mem_cons.1 ((hm y).2 (List.mem_cons_of_mem _ hy))with e|e
   ·subst e;exact absurd hy nk
   ·exact e
theorem Wd(h:Fo c){l:List α}(hl:Cp c l):l.Nodup:=hl.imp fun{x y} hxy e=>by subst e;rw[h.self]at hxy;omega
def Cc(c:α→α→Int)(s l:List α):List α:=l.foldl (fun s b=>By c b s) s
theorem C8(h:Fo c):∀{l s:List α},Cp c s→Cp c (Cc c s l)
 | [],s,hs=>hs
 |x::l,s,hs=>C8 h (l:=l) (Fv h hs)
theorem C7(h:Fo c){y:α}:∀{l s:List α},y∈Cc c s l↔y∈l∨y∈s
 | [],s=>by simp[Cc]
 |x::l,s=>by
  have:Cc c s (x::l)=Cc c (By c x s) l:=rfl;rw[this,C7 h,Fq h,List.mem_cons];constructor
  ·rintro(g|g|g)<;>simp[g]
  ·rintro((g|g)|g)<;>simp[g]
theorem Cu:∀{l s:List α},(Cc c s l).length≤s.length+l.length
 | [],s=>by simp[Cc]
 |x::l,s=>by
  have h:Cc c s (x::l)=Cc c (By c x s) l:=rfl;have h1:=Cu (l:=l) (s:=By c x s);have h2:=Og (c:=c) (b:=x) (l:=s);rw[h,List.length_cons];omega
def Ka(e:α→α→Bool):List α→List α
 | []=>[]
 | [x]=>[x]
 |x::y::l=>if e y x=true then Ka e (x::l)else x::Ka e (y::l)
termination_by l=>l.length
theorem N9(e:α→α→Bool)(he:∀x y,e x y=true↔x=y)(y:α):∀l:List α,y∈Ka e l↔y∈l
 | []=>by simp[Ka]
 | [x]=>by simp[Ka]
 |x::z::l=>by
  unfold Ka;split
  ·rename_i h
   rw[N9 e he y (x::l),(he _ _).1 h];simp
  ·rw[List.mem_cons,N9 e he y (z::l),List.mem_cons (a:=y) (b:=x)]
termination_by l=>l.length
theorem My(h:Fo c){e:α→α→Bool}(he:∀x y,e x y=true↔x=y):∀{l:List α},l.Pairwise (fun x y=>c x y≤0)→Cp c (Ka e l)
 | [],_=>by simp[Ka,Cp]
 | [x],_=>by simp[Ka,Cp]
 |x::z::l,hl=>by
  obtain⟨h1,h2⟩:=List.pairwise_cons.1 hl;unfold Ka;split
  ·rename_i hz
   rw[(he _ _).1 hz]at h2;exact My h he h2
  ·rename_i hz
   refine List.pairwise_cons.2 ⟨fun y hy=>?_,My h he h2⟩;rw[N9 e he]at hy;have hxz:c x z<0:=by
    have:=h1 z (by simp);have h0:c x z≠0:=fun h0=>hz ((he _ _).2 ((h.zero _ _).1 h0).symm);omega
   rcases List.mem_cons.1 hy with rfl|hy
   ·exact hxz
   ·have:=(List.pairwise_cons.1 h2).1 y hy
    by_cases h0:c z y=0
    ·rw[←(h.zero _ _).1 h0];exact hxz
    ·exact h.trans _ _ _ hxz (by omega)
termination_by l=>l.length
theorem Pd(h:Fo c){e:α→α→Bool}(he:∀x y,e x y=true↔x=y){l k m:List α}(hp:k.Perm l)(hs:k.Pairwise fun x y=>c x y≤0)(hm:l.Perm m):Ka e k=Cc c [] m:=
 Ng h (My h he hs) (C8 h .nil) fun y=>by
  rw[N9 e he,C7 h,hp.mem_iff,hm.mem_iff];simp
theorem R8[Inhabited α](h:∀x y,c x y<0↔0<c y x){d:Array α}(hs:Go.Sort.SortedIn (ltc c) 0 d.size d):d.toList.Pairwise fun x y=>c x y≤0:=by
 rw[List.pairwise_iff_getElem];intro i j hi hj hij;have:=hs i j (Nat.zero_le _) hij (by simpa using hj);unfold ltc at this;rw[decide_eq_false_iff_not]at this;rw[getElem!_pos d i (by simpa using hi),getElem!_pos d j (by simpa using hj)]at this;have h1:=h (d.toList[i]) (d.toList[j]);have h2:=h (d.toList[j]) (d.toList[i]);simp only[Array.getElem_toList]at h1 h2⊢;omega
end
theorem Vk{ho:Tm}{bo:List Li}{cand:Nat→List Fa}:∀(o:List Nat) (env:List Bi) (got got':List Fa),got.length=got'.length→(∀i,i∉o→got[i]? =got'[i]?)→Cs ho bo cand o env got=Cs ho bo cand o env got'
 | [],env,got,got',h,hi=>by
  rw[show got=got' from List.ext_getElem? fun i=>hi i (by simp)]
 |k::o,env,got,got',h,hi=>by
  rw[Cs,Cs]
  congr 1
  funext x;cases Fi ho (bo.getD k .zero) x env with
  |none=>rfl
  |some e=>
   refine Vk o e _ _ (by simpa using h) fun i hin=>?_;by_cases hk:i=k
   ·subst hk
    simp[List.getElem?_set,h]
   ·rw[List.getElem?_set_ne (Ne.symm hk),List.getElem?_set_ne (Ne.symm hk)]
    exact hi i (by simp[hk,hin])
def Ow(q:Nat)(σ:St)(v:AV)(es:List (List AV)):Prop:=(es=[]∧(v=Ax∨v= .fsl q []))∨∃b cap,v=slv b es.length cap∧es.length≤cap∧σ b=some (.rows q es false cap)
section
variable{q:Nat}{σ σ':St}{v:AV}{es:List (List AV)}
theorem Ow.lat(h:Ow q σ v es):LAt q σ v es:=by
 rcases h with⟨rfl,rfl|rfl⟩|⟨b,cap,rfl,h1,h2⟩
 ·exact .none
 ·exact .full
 ·exact .inr (.inr ⟨b,cap,rfl,h1,h2⟩)
theorem Ow.keep(h:Ow q σ v es)(hs:∀x o,σ x=some o→Own v x→σ' x=some o):Ow q σ' v es:=by
 rcases h with h|⟨b,cap,rfl,h1,h2⟩
 ·exact .inl h
 ·exact .inr ⟨b,cap,rfl,h1,hs _ _ h2 (Bg.2 rfl)⟩
theorem Ow.sub(h:Ow q σ v es)(hs:∀x o,σ x=some o→σ' x=some o):Ow q σ' v es:=h.keep fun x o hx _=>hs x o hx
theorem Ow.of_app{eby:Nat}{s:AV}{es ys:List (List AV)}{k:AV→St→Prop}(h:LAt q σ s es)(hy:ys≠[])(hb:(es.length+ys.length)*eby≤140737488355328)
  (hk:∀v' σ',Ow q σ' v' (es++ys)→(∀x o,σ x=some o→¬Own s x→σ' x=some o∧¬Own v' x)→(∀x,Own v' x→∃c,σ' x=some (.rows q (es++ys) false c))→k v' σ'):D7 q eby ys σ s k:=
 h.app_row hy hb fun b cap σ' h1 h2 h3=>hk _ σ' (.inr ⟨b,cap,by rw[List.length_append],by rw[List.length_append];exact h1,h2⟩) (fun x o hx hn=>⟨(h3 x o hx hn).1,fun ho=>(h3 x o hx hn).2 (Bg.1 ho)⟩) fun x hx=>⟨cap,by rw[Bg.1 hx];exact h2⟩
end
section
variable{σ:St}
@[go_sem] theorem Am2{P:Program}{t:TypeId}{q:Nat}{es:List (List AV)}{K:AV→Prop}:C2 P .eql t (.fsl q es) (.v (.slice none 0 0)) K=(Du P t=true∧(es≠[]→K (.v (.bool false)))∧(es=[]→∀b,K (.v (.bool b)))):=_root_.id rfl
theorem Mv{v:AV}(l:List Cn)(hl:l.length≤1000000000000)(hv:Rd 3 σ v (cnC l)):AT Tryz.prog 58 [v] σ fun r σ'=>Ow 3 σ' r (cnC l)∧Cz σ σ' r:=by
 refine AT.ob Tryz.func58 rfl ?_;have hsrc:src 3 false σ v=some (cnC l):=by
  rcases hv with rfl|h
  ·simp[src]
  ·exact Ahv (by decide) h
 have key:∀{k:AV→St→Prop},(∀r σ',Ow 3 σ' r (cnC l)→Cz σ σ' r→k r σ')→D7 3 32 (cnC l) σ (.fsl 3 []) k:=fun{k} hk=>by
  by_cases he:cnC l=[]
  ·rw[he]at hk⊢
   exact⟨rfl,fun _=>hk _ _ (.inl ⟨rfl,.inr rfl⟩) fun y p hy=>⟨hy,A3⟩,fun h=>absurd rfl h⟩
  ·exact Ow.of_app .full he (by rw[Lo];simp only[List.length_nil];omega) fun lv σ1 h1 h2 _=>hk _ _ h1 fun y p hy=>h2 y p hy A3
 rcases hv with rfl|⟨rfl,he⟩|rfl|⟨b,cap,rfl,_,_⟩
 case' inr.inl=>
  simp only[go_sem];exact Ac (r:=Ax) rfl ⟨.inl ⟨he,.inl rfl⟩,.nil⟩
 all_goals simp only[go_sem]
 case' inl=>refine⟨fun he=>?_,fun he b=>?_⟩
 case' inr.inr.inl=>refine⟨fun he=>?_,fun he b=>?_⟩
 case' inl.refine_2=>refine aIf_bool (fun _=>?_) (fun _=>?_)
 case' inr.inr.inl.refine_2=>refine aIf_bool (fun _=>?_) (fun _=>?_)
 case' inl.refine_2.refine_1=>
  simp only[go_sem];exact Ac (r:=Ax) rfl ⟨.inl ⟨he,.inl rfl⟩,.nil⟩
 case' inr.inr.inl.refine_2.refine_1=>
  simp only[go_sem];exact Ac (r:=Ax) rfl ⟨.inl ⟨he,.inl rfl⟩,.nil⟩
 case' inl.refine_2.refine_2=>simp only[go_sem]
 case' inr.inr.inl.refine_2.refine_2=>simp only[go_sem]
 case' inr.inr.inr=>rw[Lo]at hsrc
 all_goals
  refine As (ys:=cnC l) hsrc (by decide) (by decide) (by decide) (key fun lv σ1 h1 h2=>?_);simp only[go_sem];exact Ac (r:=lv) rfl ⟨h1,h2⟩
theorem Aa7{v:AV}(l:List Fa)(hl:l.length≤1000000000000)(h:∃b c,v=slv b l.length c∧σ b=some (.rows 4 (faC l) false c)):AT Tryz.prog 133 [v] σ fun r σ'=>Ow 4 σ' r (faC l)∧Cz σ σ' r∧∀x,Own r x→σ x=none:=by
 obtain⟨b,c,rfl,hb⟩:=h;refine AT.ob Tryz.func133 rfl ?_;simp only[go_sem];have hsrc:src 4 false σ (slv b l.length c)=some (faC l):=by
  simp only[src,hb];rw[if_pos ⟨trivial,by simp,by simp[faC]⟩];simp only[Nat.zero_div,List.drop_zero];rw[List.take_of_length_le (by rw[Am];omega)]
 by_cases he:faC l=[]
 ·refine As (ys:=faC l) hsrc (by decide) (by decide) (by decide) ?_
  rw[he];refine⟨rfl,fun _=>?_,fun h=>absurd rfl h⟩;simp only[go_sem];exact Ac (r:=.fsl 4 []) rfl ⟨.inl ⟨rfl,.inr rfl⟩,fun y p hy=>⟨hy,A3⟩,fun x hx=>absurd hx A3⟩
 ·refine As (ys:=faC l) hsrc (by decide) (by decide) (by decide) (Ow.of_app .full he (by rw[Am];simp only[List.length_nil];omega) fun lv σ1 h1 h2 _=>?_)
  simp only[go_sem];have hG:Cz σ σ1 lv:=fun y p hy=>h2 y p hy A3;exact Ac (r:=lv) rfl ⟨h1,hG,fun x hx=>hG.own hx⟩
theorem Uw{a b:List Fa}{v w:AV}(ha:Rd 4 σ v (faC a))(hb:Rd 4 σ w (faC b))(sa:SmB a)(sb:SmB b):AT Tryz.prog 163 [v,w,fnv 112] σ fun r σ'=>r=int (Ll a b)∧σ'=σ:=by
 refine AT.ob Tryz.func163 rfl ?_;have s1:=sa.1;have s2:=sb.1;simp only[go_sem,Aa,ha.len,Am];refine⟨fun m fr σ'=>∃i:Nat,m=a.length-i∧i≤a.length∧i≤b.length∧(∀x o,σ x=some o→σ' x=some o)∧D5 A4 (a.drop i) (b.drop i)=D5 A4 a b∧fr 0=v∧fr 1=w∧fr 2=fnv 112∧fr 11=v∧fr 12=int a.length∧fr 13=int i,⟨_,0,rfl,by omega,by omega,fun _ _ h=>h,rfl,rfl,rfl,rfl,rfl,rfl,rfl⟩,?_⟩;rintro m fr σ1 ⟨i,rfl,h1,h2,hs,hI,f0,f1,f2,f11,f12,f13⟩;have c0:Ctx σ [] σ1:=⟨hs,fun p hp=>(by cases hp),fun p hp=>(by cases hp),List.nodup_nil⟩;have ha1:=ha.keep hs;have hb1:=hb.keep hs;simp only[go_sem,f12,f13];refine aIf_by (fun hlt=>?_) (fun hlt=>?_)
 ·have hia:i<a.length:=by omega
  simp only[go_sem,Aa,f11,f13];refine ha1.elem (by omega) (by rw[Am];omega) fun p hp=>?_;simp only[go_sem,Aa];refine hp.load (by decide) (by rw[Int.toNat_natCast,Bc hia];exact Nat.le_refl 4) ?_;simp only[go_sem,Aa,Bc hia];refine c0.alloc fun t8 σ2 c1=>?_;obtain⟨σ3,e3,c2⟩:=c1.abs 0 rfl (.cells a[i].cs);have hb2:=hb.keep c2.sub;simp only[go_sem,Aa,c1.g0,e3,f1,hb1.len,Am];by_cases hib:i<b.length
  ·have d:=decide_eq_false (show¬(b.length:Int)≤i by omega)
   simp only[go_sem,Aa,f1,f13,d];refine hb2.elem (by omega) (by rw[Am];omega) fun p' hp'=>?_;simp only[go_sem,Aa];refine hp'.load (by decide) (by rw[Int.toNat_natCast,Bc hib];exact Nat.le_refl 4) ?_;simp only[go_sem,Aa,Bc hib];refine c2.alloc fun t9 σ4 c3=>?_;obtain⟨σ5,e5,c4⟩:=c3.abs 0 rfl (.cells b[i].cs);simp only[go_sem,Aa,c3.g1,e5,c4.g1,f2];refine(Gx a[i] b[i] (sa.2 _ (List.getElem_mem hia)) (sb.2 _ (List.getElem_mem hib))).p ?_;simp only[go_sem,Aa];rw[Abb hia hib]at hI;refine aIf_by (fun h0=>?_) (fun h0=>?_)
   ·rw[if_pos h0]at hI
    simp only[go_sem,Aa,f0,f1,f2,f11,f12,f13,A2 i (by omega)];refine⟨a.length-(i+1),by omega,i+1,?_⟩;have hs':=c4.sub
    (and_intros<;>first|assumption|rfl|omega)
   ·rw[if_neg h0]at hI
    simp only[go_sem,Aa];exact Ae (r:=int _) rfl _ σ (c4.view _) ⟨by unfold Ll;rw[←hI],rfl⟩
  ·have d:=decide_eq_true (show(b.length:Int)≤i by omega)
   have fin:Ll a b=1:=by
    unfold Ll;rw[←hI,Ux h1 h2 (by omega),if_neg (by omega),if_pos (by omega)]
   simp only[go_sem,Aa,f1,f13,d];exact Ae (r:=int 1) rfl _ σ (c2.view _) ⟨by rw[fin],rfl⟩
 ·have fin:Ll a b=if a.length<b.length then-1 else 0:=by
   unfold Ll;rw[←hI,Ux h1 h2 (by omega),if_neg (show¬b.length<a.length by omega)]
  simp only[go_sem,Aa,f0,f1,ha1.len,hb1.len,Am];refine aIf_by (fun h0=>?_) (fun h0=>?_)
  ·rw[if_pos (by omega)]at fin
   simp only[go_sem,Aa];exact Ae (r:=int (-1)) rfl _ σ (c0.view _) ⟨by rw[fin],rfl⟩
  ·rw[if_neg (by omega)]at fin
   simp only[go_sem,Aa];exact Ae (r:=int 0) rfl _ σ (c0.view _) ⟨by rw[fin],rfl⟩
theorem orderB_at{a b:List Fa}{v w:AV}(ha:Rd 4 σ v (faC a))(hb:Rd 4 σ w (faC b))(sa:SmB a)(sb:SmB b):AT Tryz.prog 103 [v,w] σ fun r σ'=>r=int (Ll a b)∧σ'=σ:=by
 refine AT.ob Tryz.func103 rfl ?_;simp only[go_sem];refine(Uw ha hb sa sb).mono ?_;rintro _ σ' ⟨rfl,rfl⟩;simp only[go_sem];exact Ac (r:=int _) rfl ⟨rfl,rfl⟩
theorem eqB_at{a b:List Fa}{v w:AV}(ha:Rd 4 σ v (faC a))(hb:Rd 4 σ w (faC b))(sa:SmB a)(sb:SmB b):AT Tryz.prog 105 [v,w] σ fun r σ'=>r=boo (decide (a=b))∧σ'=σ:=by
 refine AT.ob Tryz.func105 rfl ?_;simp only[go_sem];refine(orderB_at ha hb sa sb).mono ?_;rintro _ σ' ⟨rfl,rfl⟩;simp only[go_sem];exact Ac (r:=boo _) rfl ⟨by rw[decide_eq_decide.2 (Ea.zero a b)],rfl⟩
end
theorem spl1{α:Type}{A R:List α}{x z:α}{i:Nat}(h:A.length=i):List.take i (A++z::R)++[x]++List.drop (i+1) (A++z::R)=A++x::R:=by
 subst h;simp[List.drop_append]
theorem spl2{α:Type}{A B R:List α}{x:α}{i:Nat}(h:A.length=i)(hr:R.length=B.length):List.take (i+1) (A++x::R)++B++List.drop (i+1+B.length) (A++x::R)=A++x::B:=by
 subst h;rw[List.drop_of_length_le (by simp;omega)];have:List.take (A.length+1) (A++x::R)=A++[x]:=by
  rw[List.take_append,List.take_of_length_le (by omega)];simp
 rw[this];simp
theorem spl3{α:Type}{A B:List α}{x y:α}{i:Nat}(h:A.length=i):List.take i (List.take (i+1) (A++y::B)++(y::B)++List.drop (i+1+(y::B).length) (A++y::B))++[x]++List.drop (i+1) (List.take (i+1) (A++y::B)++(y::B)++List.drop (i+1+(y::B).length) (A++y::B))=A++x::y::B:=by
 subst h;rw[List.drop_of_length_le (l:=A++y::B) (by simp)];have:List.take (A.length+1) (A++y::B)=A++[y]:=by
  rw[List.take_append,List.take_of_length_le (by omega)];simp
 rw[this];simp[List.drop_append]
section
variable{ag byt:Bool}{sz q eby b n c l h:Nat}{zr ez:List Value}{ik:IntKind}{σ:St}{K:AV→Prop}{k:AV→St→Prop}
theorem D3{j:Int}(hj:j=h)(hn:h≤c)(hk:K (slv b h c)):aSli (some ⟨ag,sz,zr,.sl q eby ez byt⟩) σ (slv b n c) .none (some (.v (.int ik j))) .none K:=by
 subst hj;refine .inl ⟨b,0,n,c,rfl,0,h,c,rfl,rfl,.inl ⟨rfl,rfl⟩,by omega,by omega,by omega,by omega,?_⟩;have e:Fl (c:Int).toNat (0:Int).toNat 0 q=0:=by
  unfold Fl;split<;>simp
 rw[e];simpa using hk
theorem Cy{j:Int}{p:Nat}(hj:j=l)(hp:p=l*q)(h0:l≤n)(hn:n≤c)(hlc:l<c)(hk:K (.v (.slice (some ⟨b,p,none⟩) (n-l) (c-l)))):aSli (some ⟨ag,sz,zr,.sl q eby ez byt⟩) σ (slv b n c) (some (.v (.int ik j))) .none .none K:=by
 subst hj;exact Ba hp h0 hn hlc hk
theorem Mh{j j':Int}{p:Nat}(hj:j=l)(hj':j'=h)(hp:p=l*q)(h0:l≤h)(hn:h≤c)(hlc:l<c)(hk:K (.v (.slice (some ⟨b,p,none⟩) (h-l) (c-l)))):aSli (some ⟨ag,sz,zr,.sl q eby ez byt⟩) σ (slv b n c) (some (.v (.int ik j))) (some (.v (.int ik j'))) .none K:=by
 subst hj hj' hp;refine .inl ⟨b,0,n,c,rfl,l,h,c,rfl,rfl,.inl ⟨rfl,rfl⟩,by omega,by omega,by omega,by omega,?_⟩;have e:Fl (c:Int).toNat (l:Int).toNat 0 q=l*q:=by
  unfold Fl;rw[if_neg (by simp;omega)];simp
 rw[e];simpa using hk
theorem R7{j j' j'':Int}{m:Nat}(hj:j=l)(hj':j'=h)(hj'':j''=m)(h0:l≤h)(hn:h≤m)(hm:m≤c)(hk:∀x,K x):aSli (some ⟨ag,sz,zr,.sl q eby ez byt⟩) σ (slv b n c) (some (.v (.int ik j))) (some (.v (.int ik j'))) (some (.v (.int ik j''))) K:=by
 subst hj hj' hj'';exact .inl ⟨b,0,n,c,rfl,l,h,m,rfl,rfl,.inr ⟨by simp,by simp,rfl⟩,by omega,by omega,by omega,by omega,hk _⟩
theorem Fb{s:AV}{m cc cap p:Nat}{es ys:List (List AV)}(hp:p=m*q)(hb:σ b=some (.rows q es false cap))(hq:0<q)(hc:cut q σ s n=some ys)(h1:m≤es.length)(h2:m+ys.length≤cap)
  (hk:k (.v (.int .i64 ys.length)) (σ.set b (.rows q (es.take m++ys++es.drop (m+ys.length)) false cap))):Q5 (some ⟨ag,sz,zr,.sl q eby ez byt⟩) σ (.v (.slice (some ⟨b,p,none⟩) n cc)) s k:=
 ⟨hq,es,cap,ys,m,hb,hp,hc,h1,h2,hk⟩
theorem Oa{m n' cc cap p:Nat}{es:List (List AV)}(hp:p=m*q)(hq:0<q)(hb:σ b=some (.rows q es false cap))(hm:m+min n' n≤es.length):cut q σ (.v (.slice (some ⟨b,p,none⟩) n' cc)) n=some ((es.drop m).take (min n' n)):=by
 subst hp;simp only[cut,src,hb,Nat.mul_div_cancel _ hq,Nat.mul_mod_left];rw[if_pos ⟨trivial,trivial,hm⟩]
theorem Uq{ag2:Bool}{sz2:Nat}{zr2:List Value}{ik2:IntKind}{es:List (List AV)}{m cap cap':Nat}{frz:Bool}{j:Int}(hj:j=m)(hb:σ b=some (.rows q es frz cap'))(hn:n≤es.length)(hq:0<q)(he:0<eby)(hz:ez.all Value.oneCell'=true)(hm:0<m)(hr:cap<n+m)(hbd:(n+m)*eby≤140737488355328)
  (hk:∀b' c',σ b'=none→n+m≤c'→k (slv b' (n+m) c') (σ.set b' (.rows q (es.take n++List.replicate m (ez.map .v)) false c'))):
  aAppN (some ⟨ag,sz,zr,.sl q eby ez byt⟩) (some ⟨ag2,sz2,zr2,.int ik2⟩) σ (slv b n cap) (.v (.int ik j)) k:=by
 subst hj;refine⟨hq,he,hz,by omega,by omega,by rw[Int.toNat_natCast];exact hbd,es,frz,cap',hb,hn,fun b' c' h1 h2=>?_⟩;rw[Int.toNat_natCast]at h2⊢;exact hk b' c' h1 h2
end
abbrev slp(b p n c:Nat):AV:=.v (.slice (some ⟨b,p,none⟩) n c)
def Hc(v:AV)(x:Nat):Prop:=∃p n c,v=slp x p n c
def LQ(q:Nat)(σ:St)(v:AV)(es:List (List AV)):Prop:=
 (v=Ax∧es=[])∨∃b pre post c cap,v=slp b (pre.length*q) es.length c∧σ b=some (.rows q (pre++es++post) false cap)∧(pre++es++post).length≤cap∧((post=[]∧c+pre.length=cap)∨(es=[]∧c=0))
section
variable{q:Nat}{σ σ':St}{v:AV}{es ys:List (List AV)}{K:AV→Prop}{k:AV→St→Prop}
theorem V8{x:Nat}:¬Hc Ax x:=fun⟨p,n,c,e⟩=>by cases e
theorem Dm{b p n c x:Nat}:Hc (slp b p n c) x↔x=b:=by
 constructor
 ·rintro⟨p',n',c',e⟩
  simp only[AV.v.injEq,Value.slice.injEq,Option.some.injEq,Addr.mk.injEq]at e;exact e.1.1.symm
 ·rintro rfl;exact⟨_,_,_,rfl⟩
theorem LQ.nil:LQ q σ Ax []:=.inl ⟨rfl,rfl⟩
theorem LQ.rows(h:LQ q σ v es){x:Nat}(ho:Hc v x):∃rs cap,σ x=some (.rows q rs false cap):=by
 rcases h with⟨rfl,_⟩|⟨b,pre,post,c,cap,rfl,hb,_,_⟩
 ·exact absurd ho V8
 ·rw[Dm.1 ho];exact⟨_,_,hb⟩
theorem LQ.keep(h:LQ q σ v es)(hs:∀x o,σ x=some o→Hc v x→σ' x=some o):LQ q σ' v es:=by
 rcases h with⟨rfl,he⟩|⟨b,pre,post,c,cap,rfl,hb,hl,hc⟩
 ·exact .inl ⟨rfl,he⟩
 ·exact .inr ⟨b,pre,post,c,cap,rfl,hs b _ hb (Dm.2 rfl),hl,hc⟩
theorem LQ.not_cells(h:LQ q σ v es){x:Nat}{cs:List AV}(hx:σ x=some (.cells cs)):¬Hc v x:=fun ho=>by
 obtain⟨r,c,hc⟩:=h.rows ho;rw[hx]at hc;cases hc
theorem LQ.cells(h:LQ q σ v es):v.cells=[v]:=by rcases h with⟨rfl,_⟩|⟨b,pre,post,c,cap,rfl,_⟩<;>rfl
theorem LQ.one(h:LQ q σ v es):v.one=true:=by rcases h with⟨rfl,_⟩|⟨b,pre,post,c,cap,rfl,_⟩<;>rfl
theorem LQ.len{ag:Bool}{sz eby:Nat}{zr ez:List Value}{byt:Bool}(h:LQ q σ v es):Im (some ⟨ag,sz,zr,.sl q eby ez byt⟩) v K=K (.v (.int .i64 es.length)):=by
 rcases h with⟨rfl,rfl⟩|⟨b,pre,post,c,cap,rfl,_⟩<;>rfl
theorem LQ.first{ag:Bool}{sz eby:Nat}{zr ez:List Value}{byt:Bool}{ik:IntKind}{e:List AV}(h:LQ q σ v (e::es))(hq:0<q)(he:e.length=q)
  (hk:∀p,(∀(zr':List Value) (td:TD) (K':AV→Prop),K' (.agg e)→B8 (some ⟨true,q,zr',td⟩) σ p K')→K p):Dy (some ⟨ag,sz,zr,.sl q eby ez byt⟩) σ v (.v (.int ik 0)) K:=by
 rcases h with⟨_,h⟩|⟨b,pre,post,c,cap,rfl,hb,hl,hc⟩
 ·cases h
 ·refine Gh (l:=pre.length) rfl hq (by omega) (by simp) (hk _ fun zr' td K' hK=>?_)
  simp only[B8,hb];have e1:(pre++e::es++post).getD (pre.length+(0:Int).toNat) []=e:=by
   simp[List.getD_eq_getElem?_getD,List.getElem?_append_right]
  rw[e1];simp only[if_true,List.drop_zero];rw[List.take_of_length_le (by omega)];exact⟨trivial,by simp,by omega,hK⟩
theorem LQ.tail{ag:Bool}{sz eby:Nat}{zr ez:List Value}{byt:Bool}{ik:IntKind}{e:List AV}(h:LQ q σ v (e::es))
  (hk:∀v',LQ q σ v' es→(∀x,Hc v' x↔Hc v x)→K v'):aSli (some ⟨ag,sz,zr,.sl q eby ez byt⟩) σ v (some (.v (.int ik 1))) .none .none K:=by
 rcases h with⟨_,h⟩|⟨b,pre,post,c,cap,rfl,hb,hl,hc⟩
 ·cases h
 ·obtain⟨rfl,hc⟩:post=[]∧c+pre.length=cap:=by
   rcases hc with hc|⟨h,_⟩
   ·exact hc
   ·cases h
  simp only[List.length_append,List.length_cons,List.append_nil,List.length_nil]at hl;refine .inl ⟨b,_,_,c,rfl,1,(es.length+1:Nat),c,rfl,by simp[Ho],.inl ⟨rfl,rfl⟩,by omega,by omega,by omega,by omega,?_⟩;rw[show((es.length+1:Nat):Int).toNat-(1:Int).toNat=es.length by simp];rw[show(c:Int).toNat-(1:Int).toNat=c-1 by simp];unfold Fl;by_cases h1:c=1
  ·rw[if_pos (by simp[h1])]
   have he:es=[]:=List.eq_nil_of_length_eq_zero (by omega);subst he;refine hk _ (.inr ⟨b,pre,[e],c-1,cap,rfl,by simpa using hb,by simp at hl⊢;omega,.inr ⟨rfl,by omega⟩⟩) fun x=>by rw[Dm,Dm]
  ·rw[if_neg (by simp;omega)]
   have e1:pre.length*q+(1:Int).toNat*q=(pre++[e]).length*q:=by simp[Nat.add_mul]
   rw[e1];refine hk _ (.inr ⟨b,pre++[e],[],c-1,cap,rfl,by simpa using hb,by simp at hl⊢;omega,.inl ⟨rfl,by simp;omega⟩⟩) fun x=>by rw[Dm,Dm]
theorem LQ.app{eby:Nat}(h:LQ q σ v es)(hq:0<q)(hy:ys≠[])(hb:(es.length+ys.length)*eby≤140737488355328)
  (hk:∀v' σ',LQ q σ' v' (es++ys)→(∀x o,σ x=some o→¬Hc v x→σ' x=some o∧¬Hc v' x)→k v' σ'):D7 q eby ys σ v k:=by
 rcases h with⟨rfl,rfl⟩|⟨b,pre,post,c,cap,rfl,hbr,hl,hc⟩
 ·refine⟨fun e=>absurd e hy,fun _=>⟨by simpa using hb,fun b cap hb0 hle=>?_⟩⟩
  refine hk _ _ (.inr ⟨b,[],[],cap,cap,by simp,by rw[Ab];simp,by simpa using hle,.inl ⟨rfl,rfl⟩⟩) fun x o hx hn=>?_;have hne:x≠b:=fun e=>by subst e;rw[hb0]at hx;cases hx
  exact⟨by rw[Ad hne];exact hx,fun ho=>hne (Dm.1 ho)⟩
 ·rcases hc with⟨rfl,hc⟩|⟨rfl,rfl⟩
  ·rw[List.append_nil]at hbr
   refine .inr (.inr (.inr ⟨hy,pre,es,cap,hbr,rfl,rfl,hc,hb,fun b' pre' cap'' hb0 hle=>?_⟩));refine hk _ _ (.inr ⟨b',pre',[],cap''-pre'.length,cap'',by rw[List.length_append],by rw[Ab];simp,by simp;omega,.inl ⟨rfl,by omega⟩⟩) fun x o hx hn=>?_;have hnb:x≠b:=fun e=>hn (Dm.2 e);have hdel:(σ.del b) x=some o:=by simp[St.del,hnb,hx]
   have hne:x≠b':=fun e=>by subst e;rw[hb0]at hdel;cases hdel
   exact⟨by rw[Ad hne];exact hdel,fun ho=>hne (Dm.1 ho)⟩
  ·refine .inl ⟨rfl,hy,[],?_,by simpa using hb,fun b' cap' hb0 hle=>?_⟩
   ·simp only[src,hbr,List.length_nil]
    rw[if_pos ⟨trivial,Nat.mul_mod_left _ _,by rw[Nat.mul_div_cancel _ hq];simp⟩];simp
   ·refine hk _ _ (.inr ⟨b',[],[],cap',cap',by simp,by rw[Ab];simp,by simpa using hle,.inl ⟨rfl,rfl⟩⟩) fun x o hx hn=>?_
    have hne:x≠b':=fun e=>by subst e;rw[hb0]at hx;cases hx
    exact⟨by rw[Ad hne];exact hx,fun ho=>hne (Dm.1 ho)⟩
end
instance memDec(s:ByteArray)(l:List ByteArray):Decidable (s∈l):=@List.instDecidableMemOfLawfulBEq ByteArray instBEqOfDecidableEq inferInstance s l
def kn(t:Tm)(vs:List ByteArray):Nat:=if t≠.zero∧(t.v=emp∨t.v∈vs)then 1 else 0
def knS(l:List Tm)(vs:List ByteArray):Nat:=(l.map (kn · vs)).sum
def knL(l:Li)(vs:List ByteArray):Nat:=knS (l.by'::l.ar) vs
def Q1(l:Li)(vs:List ByteArray):List ByteArray:=vs++l.by'.v::l.at'.v::l.ar.map Tm.v
theorem Ajj(t:Tm)(vs:List ByteArray):kn t vs≤1:=by unfold kn;split<;>omega
theorem Ad5(vs:List ByteArray):∀l:List Tm,knS l vs≤l.length
 | []=>by simp[knS]
 |t::l=>by
  have:=Ad5 vs l;have:=Ajj t vs;simp only[knS,List.map_cons,List.sum_cons,List.length_cons]at*;omega
theorem Ad6(vs:List ByteArray){l:List Tm}{i:Nat}(h:i<l.length):knS (l.take (i+1)) vs=knS (l.take i) vs+kn l[i] vs:=by
 unfold knS;rw[List.take_add_one,List.getElem?_eq_getElem h];simp only[List.map_append,List.sum_append,Option.toList,List.map_cons,List.map_nil,List.sum_cons,List.sum_nil,Nat.add_zero]
section
variable{σ:St}{lv:AV}
theorem Ad1{l:List ByteArray}{s:ByteArray}(hl:l.length≤1000000000000)(h:Rd 1 σ lv (stC l)):AT Tryz.prog 96 [lv,str s] σ fun r σ'=>σ'=σ∧((s∈l∧∃i:Nat,r=int i)∨(s∉l∧r=int (-1))):=by
 refine AT.ob Tryz.func96 rfl ?_;simp only[go_sem,Aa,h.len];refine⟨fun m fr σ'=>∃i:Nat,m=l.length-i∧i≤l.length∧σ'=σ∧fr 0=lv∧fr 1=str s∧fr 8=int i∧fr 7=int l.length∧s∉l.take i,⟨_,0,rfl,by omega,rfl,rfl,rfl,rfl,rfl,by simp⟩,?_⟩;rintro m fr σ ⟨i,rfl,h1,rfl,f0,f1,f8,f7,g⟩;simp only[go_sem,f0,f1,f8,f7];refine aIf_by (fun hlt=>?_) (fun hlt=>?_)
 ·have hi:i<l.length:=by omega
  simp only[go_sem,Aa,f0,f1,f8];refine h.elem (by omega) (by rw[T7];omega) fun p hp=>?_;simp only[go_sem,Aa];refine hp.load1 (by omega) (by rw[Int.toNat_natCast,Aap hi];simp) ?_;simp only[go_sem,Aa,f0,f1,f8,f7,Aap hi];refine aIf_by (fun he=>?_) (fun he=>?_)
  ·simp only[go_sem,Aa]
   exact Ac (r:=int i) rfl ⟨rfl,.inl ⟨he▸List.getElem_mem hi,i,rfl⟩⟩
  ·simp only[go_sem,Aa,f0,f1,f8,f7,A2 i (by omega)]
   refine⟨l.length-(i+1),by omega,i+1,rfl,by omega,rfl,?_⟩;rw[List.take_add_one,List.getElem?_eq_getElem hi];simp only[Option.toList,List.mem_append,List.mem_singleton,not_or];exact⟨g,fun e=>he e⟩
 ·simp only[go_sem,Aa,f0,f1,f8]
  rw[List.take_of_length_le (by omega)]at g;exact Ac (r:=int (-1)) rfl ⟨rfl,.inr ⟨g,rfl⟩⟩
theorem Xp{l:List ByteArray}{s:ByteArray}(hl:l.length≤1000000000000)(h:Rd 1 σ lv (stC l)):AT Tryz.prog 48 [lv,str s] σ fun r σ'=>r=boo (decide (s∈l))∧σ'=σ:=by
 refine AT.ob Tryz.func48 rfl ?_;simp only[go_sem,Aa];refine(Ad1 hl h).mono ?_;rintro _ σ ⟨rfl,hs⟩;rcases hs with⟨hs,i,rfl⟩|⟨hs,rfl⟩
 ·simp only[go_sem,Aa]
  exact Ac (r:=boo (decide ((0:Int)≤i))) rfl ⟨by rw[decide_eq_true hs,decide_eq_true (by omega)],rfl⟩
 ·simp only[go_sem,Aa]
  exact Ac (r:=boo (decide ((0:Int)≤-1))) rfl ⟨by rw[decide_eq_false hs];rfl,rfl⟩
theorem Aj1{K:AV→Prop}{t:Tm}(h:K (boo (!decide (t= .zero)))):Nw Tryz.prog true 88 (.agg t.cs) (.agg Tm.zero.cs) K:=by
 refine Sq (ls:=[.s,.b,.i .i64,.s]) (vs:=[.string t.v,.bool t.b,.int .i64 t.n,.string t.s]) (ws:=[.string emp,.bool false,.int .i64 0,.string emp]) (by kernel_rfl) (by kernel_rfl) (by kernel_rfl) rfl rfl rfl rfl (by simp[Fit,Co.ok]) (by simp[Fit,Co.ok]) ?_;rcases t with⟨v,b,n,s⟩;simpa[eqL,Fh,Tm.zero]using h
end
def Rl.S3(r:Rl):Prop:=r.bo.length≤300∧∀l∈r.bo,l.ar.length≤300
def rlC(l:List Rl):List (List AV):=l.map Rl.cs
@[go_sem] theorem G0(l:List Rl):(rlC l).length=l.length:=by simp[rlC]
theorem Jz{l:List Rl}{i:Nat}(h:i<l.length):(rlC l).getD i []=l[i].cs:=by simp[rlC,List.getD_eq_getElem?_getD,h]
theorem Vw{q:Nat}{σ:St}{es:List (List AV)}{l:List AV}:VWs σ σ (.fsl q es::l) (.sl q es::l):=
 vws_cons (LAt.full.vw_same fun x ⟨n,c,e⟩=>by cases e) (Ch _)
def Cn.Wf(c:Cn):Prop:=c.s.size≤140737488351232
def Fa.Wf(f:Fa):Prop:=f.ar.length≤140737488351232∧f.at'.size≤140737488351232∧f.by'.size≤140737488351232∧f.pr.size≤140737488351232∧∀c∈f.ar,c.Wf
theorem Rd.keepO{q:Nat}{σ σ':St}{a:AV}{es:List (List AV)}(h:Rd q σ a es)(hs:∀x o,σ x=some o→Own a x→σ' x=some o):Rd q σ' a es:=h.imp _root_.id fun h=>h.keep hs
theorem Rd.own_rows{q:Nat}{σ:St}{a:AV}{es:List (List AV)}(h:Rd q σ a es){x:Nat}(ho:Own a x):∃cap,σ x=some (.rows q es false cap):=by
 rcases h with rfl|h
 ·exact absurd ho Jy
 ·exact h.own_rows ho
theorem Rd.vw{q:Nat}{σ0 σ:St}{a:AV}{es:List (List AV)}(h:Rd q σ a es)(hf:∀x,Own a x→σ0 x=none):VW σ σ0 a (.sl q es):=by
 rcases h with rfl|h
 ·exact .refl _
 ·exact h.vw_same hf
def FrX(σ0 σ:St)(f:Fa)(e:List AV):Prop:=∃a,e=faX f a∧Rd 3 σ a (cnC f.ar)∧∀x,Own a x→σ0 x=none
theorem FrX.vws{σ0 σ:St}{f:Fa}{e:List AV}(h:FrX σ0 σ f e):VWs σ σ0 e f.cs:=by
 obtain⟨a,rfl,h1,h2⟩:=h;exact vws_same (vws_same (vws_same (vws_cons (h1.vw h2) Cm)))
def CP(σ0 σ:St)(lv:AV)(es:List (List AV))(b:List Fa):Prop:=(∀x o,σ0 x=some o→σ x=some o)∧LAt 4 σ lv es∧(∀x,Own lv x→σ0 x=none)∧es.length=b.length∧∀j (h:j<b.length),FrX σ0 σ b[j] (es.getD j [])
theorem U1{α γ:Type}{e:α→α→Bool}{f:α→γ}{e':γ→γ→Bool}(he:∀x y,e x y=true↔f x=f y)(he':∀x y,e' x y=true↔x=y)(l:List α):(Cl e l).map f=Ka e' (l.map f):=by
 have key:∀(l:List α) (p:α),Ka e' (f p::l.map f)=f p::(Eh e p l).map f:=by
  intro l
  induction l with
  |nil=>intro p;simp[Ka,Eh]
  |cons y l ih=>
   intro p;rw[List.map_cons,Ka,Db];by_cases h:f y=f p
   ·rw[if_pos ((he' _ _).2 h),if_pos ((he _ _).2 h),←h,ih y]
   ·rw[if_neg fun h'=>h ((he' _ _).1 h'),if_neg fun h'=>h ((he _ _).1 h'),ih y]
    rfl
 cases l with
 |nil=>simp[Cl,Ka]
 |cons x l=>rw[List.map_cons,key];rfl
end Go.Proofs.YtmifmncabejffaaGreat
namespace Go.Proofs.YtmifmncabejffaaGreat.F
open Go Go.Av Go.Sort
section
variable{α:Type}{en:α→List AV}(hl:∀x,(en x).length=4)(ho:∀x,(en x).all AV.one=true){e:α→α→Bool}{g:Nat}{β:St}(hC:∀σ',(∀x o,β x=some o→σ' x=some o)→∀x y,AT Tryz.prog g [.agg (en x),.agg (en y)] σ' fun r σ''=>r=boo (e x y)∧σ''=σ')
variable{b cap:Nat}(hn:β b=none)
include hl ho hC hn
theorem compact_at{σ:St}{l:List α}(hb:σ b=some (.rows 4 (l.map en) false cap))(hs:∀x o,β x=some o→σ x=some o)(hcap:l.length≤cap)(hsz:l.length≤1000000000000):AT Tryz.prog 114 [slv b l.length cap,fnv g] σ fun r σ'=>r=slv b (Cl e l).length cap∧σ'=σ.set b (.rows 4 ((Cl e l).map en) false cap):=by
 refine AT.ob Tryz.func114 rfl ?_;have e4:∀x,(en x).take 4=en x:=fun x=>List.take_of_length_le (by rw[hl];omega);have e5:∀x y,en x++List.drop 4 (en y)=en x:=fun x y=>by rw[List.drop_eq_nil_of_le (by rw[hl];omega),List.append_nil]
 have eg:∀j (hj:j<l.length),(l.map en).getD j []=en l[j]:=fun j hj=>by simp[List.getD_eq_getElem?_getD,hj]
 have same:∀{fr:Fr} {m:Nat},m=l.length→Cl e l=l→Bj Tryz.prog fr σ (Tryz.f114).results.toList=some (slv b l.length cap)→Fp Tryz.prog (fun r σ'=>r=slv b (Cl e l).length cap∧σ'=σ.set b (.rows 4 ((Cl e l).map en) false cap)) (Tryz.f114).results.toList fr σ:=fun _ he hr=>
  Ac hr ⟨by rw[he],by rw[he];exact(Bv hb).symm⟩
 simp only[go_sem];refine aIf_by (fun h2=>?_) (fun h2=>?_)
 ·simp only[go_sem]
  exact same rfl (O9 (by omega)) rfl
 ·simp only[go_sem,Aa]
  refine⟨fun m fr σ'=>∃(k:Nat) (hk:0<k) (hkn:k≤l.length),m=l.length-k∧σ'=σ∧Cl e l=l.take k++Eh e (l[k-1]'(by omega)) (l.drop k)∧fr 0=slv b l.length cap∧fr 1=fnv g∧fr 5=int k,⟨_,1,by omega,by omega,rfl,rfl,Pb (by omega),rfl,rfl,rfl⟩,?_⟩;rintro m fr σ ⟨k,hk,hkn,rfl,rfl,hI,f0,f1,f5⟩;simp only[go_sem,f0,f5];refine aIf_by (fun hlt=>?_) (fun hlt=>?_)
  ·have hkl:k<l.length:=by omega
   have w1:IntKind.i64.wrap ((k:Int)-1)=((k-1:Nat):Int):=by rw[Ai (by omega)];omega
   have q1:=eg k hkl;have q2:=eg (k-1) (by omega);have ed:l.drop k=l[k]::l.drop (k+1):=List.drop_eq_getElem_cons hkl;rw[ed]at hI;simp only[go_sem,Aa];refine Ag [.rd 0 false,.rd 1 false,.rd 2 false,.rd 3 false,.rd 4 true,.rd 5 false,.rd 6 false,.rd 7 false,.rd 8 false,.rd 9 true,.ef 10 []] ?_;simp only[go_sem,Aa,f0,f1,f5,w1,hb,q1,q2,e4,hl,List.length_map];refine⟨by omega,by omega,by omega,by omega,(hC _ hs _ _).p ?_⟩;simp only[go_sem,Aa];refine aIf_bool (fun h0=>?_) (fun h0=>?_)
   ·have hI:Cl e l=l.take k++Eh e l[k] (l.drop (k+1)):=by rw[hI,Db,if_pos h0]
    simp only[go_sem,Aa,f0,f5];refine Ba (p:=k*4) (by omega) (by omega) hcap (by omega) ?_;simp only[go_sem,Aa]
    refine⟨fun m fr σ'=>∃(w j:Nat) (es:List (List AV)) (hj:k<j) (hjn:j≤l.length) (res:List α),m=l.length-j∧w<j∧es.length=l.length∧(∀i,i<l.length→(es.getD i []).length=4)∧σ'=σ.set b (.rows 4 es false cap)∧res.length=w∧es.take w=res.map en∧es.drop (j-1)=(l.drop (j-1)).map en∧Cl e l=res++Eh e (l[j-1]'(by omega)) (l.drop j)∧fr 0=slv b l.length cap∧fr 1=fnv g∧fr 5=int w∧fr 6= .v (.slice (some ⟨b,k*4,none⟩) (l.length-k) (cap-k))∧fr 7=int (j-k:Nat),
     ⟨_,k,k+1,l.map en,by omega,by omega,l.take k,rfl,by omega,by simp,(fun i hi=>by rw[eg i hi,hl]),(Bv hb).symm,by simp;omega,by simp[List.map_take],by simp[List.map_drop],hI,f0,f1,f5,rfl,by rw[show k+1-k=1 by omega];rfl⟩,?_⟩
    clear hI f0 f1 f5 h0 hlt w1 q1 q2 ed fr;rintro m fr σ' ⟨w,j,es,hj,hjn,res,rfl,hwj,hes,he1,rfl,hres,ht,hd,hI,f0,f1,f5,f6,f7⟩;have hge:∀i,j-1≤i→∀hi:i<l.length,es.getD i []=en l[i]:=fun i h1 h2=>by
     have:=congrArg (fun x=>x.getD (i-(j-1)) []) hd;simp only[List.getD_eq_getElem?_getD,List.getElem?_drop,List.getElem?_map]at this;rw[show j-1+(i-(j-1))=i by omega]at this;simpa[List.getD_eq_getElem?_getD,h2]using this
    simp only[go_sem,f6,f7];refine aIf_by (fun hlt=>?_) (fun hlt=>?_)
    ·have hjl:j<l.length:=by omega
     have w2:IntKind.i64.wrap (((j-k:Nat):Int)-1)=((j-k-1:Nat):Int):=by rw[Ai (by omega)];omega
     have p1:=hge j (by omega) hjl;have p2:=hge (j-1) (by omega) (by omega);have ed:l.drop j=l[j]::l.drop (j+1):=List.drop_eq_getElem_cons hjl;have a1:k+(j-k)=j:=by omega
     have a2:k+(j-k-1)=j-1:=by omega
     rw[ed]at hI;simp only[go_sem,Aa];refine Ag [.rd 0 false,.rd 1 false,.rd 2 false,.rd 3 false,.rd 4 true,.rd 5 false,.rd 6 false,.rd 7 false,.rd 8 false,.rd 9 true,.ef 10 [],.rd 11 false] ?_;simp only[go_sem,Aa,f1,f6,f7,w2];refine Gh (l:=k) (by omega) (by decide) (by omega) (by omega) ?_;simp only[go_sem,Aa,a1,Ab,p1,e4,hl,hes,f6,f7,w2];refine⟨by omega,Gh (l:=k) (by omega) (by decide) (by omega) (by omega) ?_⟩;simp only[go_sem,Aa,a2,Ab,p2,e4,hl,hes,f1];refine⟨by omega,(hC _ (Ak hn hs) _ _).p ?_⟩;simp only[go_sem,Aa];refine aIf_bool (fun h0=>?_) (fun h0=>?_)
     ·have hI:Cl e l=res++Eh e l[j] (l.drop (j+1)):=by rw[hI,Db,if_pos h0]
      have n1:IntKind.i64.wrap (((j-k:Nat):Int)+1)=((j+1-k:Nat):Int):=by rw[Ai (by omega)];omega
      simp only[go_sem,Aa,f0,f1,f5,f6,f7,n1];refine⟨l.length-(j+1),by omega,w,j+1,es,by omega,by omega,res,rfl,by omega,hes,he1,rfl,hres,ht,?_,hI,rfl,rfl⟩;rw[Nat.add_sub_cancel,show j=j-1+1 by omega,←List.drop_drop,hd,←List.map_drop,List.drop_drop]
     ·have hI:Cl e l=(res++[l[j]])++Eh e l[j] (l.drop (j+1)):=by rw[hI,Db,if_neg (by rw[h0];decide),List.append_assoc];rfl
      have n1:IntKind.i64.wrap (((j-k:Nat):Int)+1)=((j+1-k:Nat):Int):=by rw[Ai (by omega)];omega
      have dz:List.drop 4 (es.getD w [])=[]:=List.drop_eq_nil_of_le (by rw[he1 w (by omega)];omega);simp only[go_sem,Aa,f0,f1,f5,f6,f7,n1];refine Gh (l:=k) (by omega) (by decide) (by omega) (by omega) ?_;simp only[go_sem,Aa,a1,Ab,p1,e4,hl,hes,f0,f1,f5,f6,f7,n1,dz,List.append_nil,ho,B5,A2 w (by omega)];refine⟨by omega,by omega,by omega,l.length-(j+1),by omega,w+1,j+1,es.set w (en l[j]),by omega,by omega,res++[l[j]],rfl,by omega,by simp;omega,fun i hi=>?_,rfl,by simp;omega,?_,?_,hI,rfl,rfl⟩
      ·simp only[List.getD_eq_getElem?_getD,List.getElem?_set]
       split
       ·rw[if_pos (by omega)];exact hl _
       ·have:=he1 i hi
        rwa[List.getD_eq_getElem?_getD]at this
      ·rw[List.take_add_one,List.take_set_of_le (by omega),ht]
       simp[show w<es.length by omega]
      ·rw[Nat.add_sub_cancel,List.drop_set_of_lt (by omega),show j=j-1+1 by omega,←List.drop_drop,hd,←List.map_drop,List.drop_drop]
    ·rw[List.drop_of_length_le (by omega)]at hI
     have hI:Cl e l=res:=by rw[hI];simp[Eh]
     simp only[go_sem,Aa,f0,f5];refine Ba (p:=w*4) (by omega) (by omega) hcap (by omega) ?_;simp only[go_sem,Aa];refine Hg (l:=w) (by omega) Ab (by decide) (by omega) (by omega) (by decide) ?_;simp only[go_sem,Aa,B5,f0,f5];refine Ia (by omega) hcap ?_;simp only[go_sem,Aa];have hw:(Cl e l).length=w:=by rw[hI];exact hres
     refine Ae (r:=slv b w cap) rfl _ _ (Ht (m:=w) _ Ab) ⟨by rw[hw],?_⟩;rw[B5,List.append_assoc,List.take_append_of_le_length (by simp;omega),List.take_take,Nat.min_self,ht,hI]
   ·have hI:Cl e l=l.take (k+1)++Eh e l[k] (l.drop (k+1)):=by
     have e1:l.take (k+1)=l.take k++[l[k]]:=by rw[List.take_add_one,List.getElem?_eq_getElem hkl];rfl
     rw[hI,e1,Db,if_neg (by rw[h0];decide),List.append_assoc];rfl
    simp only[go_sem,Aa,f0,f1,f5,A2 k (by omega)];exact⟨l.length-(k+1),by omega,k+1,by omega,by omega,rfl,hI,rfl⟩
  ·simp only[go_sem,Aa,f0]
   refine same rfl ?_ rfl;rw[hI,List.drop_of_length_le (by omega),List.take_of_length_le (by omega)];simp[Eh]
end
end Go.Proofs.YtmifmncabejffaaGreat.F
theorem Go.Proofs.YtmifmncabejffaaGreat.rqq1{p:Prop}(h:p:=by
 refine AT.ob Aj5 rfl ?_;have sub:∀d',∀x o,β x=some o→(σ.set b (.rows Nv (rw' en d') false cap)) x=some o:=fun d' x o hx=>by
  have:x≠b:=fun e=>by subst e;rw[hn]at hx;cases hx
  rw[Ad this];exact hs x o hx
 have e4:∀x,(en x).take Nv=en x:=fun x=>List.take_of_length_le (by rw[hl];omega);have e5:∀x y,en x++List.drop Nv (en y)=en x:=fun x y=>by rw[List.drop_eq_nil_of_le (by rw[hl];omega),List.append_nil]
 simp only[go_sem,Aa,A2 a (by omega)];refine⟨fun m fr σ'=>∃(i:Nat) (d':Array α),m=e-i∧a<i∧d'.size=n∧insOuter (ltc cf) a e i d'=insertionSort (ltc cf) d a e∧σ'=σ.set b (.rows Nv (rw' en d') false cap)∧fr 0=slv b n cap∧fr 1=int a∧fr 2=int e∧fr 3=fnv g∧fr 8=int i,⟨_,a+1,d,rfl,by omega,hd,rfl,(Bv hb).symm,rfl,rfl,rfl,rfl,rfl⟩,?_⟩;rintro m fr σ' ⟨i,d',rfl,hi,hd',hI,rfl,f0,f1,f2,f3,f8⟩;simp only[go_sem,f2,f8];refine aIf_by (fun hlt=>?_) (fun hlt=>?_)
 ·simp only[go_sem,Aa,f8]
  unfold insOuter at hI;rw[if_pos (by omega)]at hI;refine⟨fun m fr σ'=>∃(j:Nat) (d'':Array α),m=j+1∧j≤i∧d''.size=n∧insInner (ltc cf) a j d''=insInner (ltc cf) a i d'∧σ'=σ.set b (.rows Nv (rw' en d'') false cap)∧fr 0=slv b n cap∧fr 1=int a∧fr 2=int e∧fr 3=fnv g∧fr 8=int i∧fr 9=int j,⟨_,i,d',rfl,by omega,hd',rfl,rfl,f0,f1,f2,f3,f8,rfl⟩,?_⟩;clear f0 f1 f2 f3 f8 fr;rintro m fr σ' ⟨j,dd,rfl,hj,hdd,hJ,rfl,f0,f1,f2,f3,f8,f9⟩;have out:insInner (ltc cf) a j dd=dd→insOuter (ltc cf) a e (i+1) dd=insertionSort (ltc cf) d a e:=fun h=>by rw[←hI,←hJ,h]
  simp only[go_sem];refine Ag [.rd 0 false,.rd 1 false,.rd 2 false,.rd 3 false,.rd 4 false,.rd 5 false,.rd 6 false,.rd 7 false,.rd 8 true,.rd 9 false,.rd 10 false,.rd 11 false,.rd 12 false,.rd 13 true,.ef 14 [],.rd 15 false,.rd 16 false] ?_;by_cases g1:(a:Int)<j
  ·obtain⟨k,rfl⟩:∃k,j=k+1:=⟨j-1,by omega⟩
   have ek:IntKind.i64.wrap (((k+1:Nat):Int)-1)=(k:Int):=by rw[Ai (by omega)];omega
   have q1:=An (en:=en) (d:=dd) (j:=k+1) (by omega);have q2:=An (en:=en) (d:=dd) (j:=k) (by omega);simp only[go_sem,f0,f1,f3,f9,decide_eq_true g1,ek,Ab,q1,q2,e4];refine⟨by omega,by omega,by omega,by omega,(hC _ (sub dd) _ _).p ?_⟩;have hu:insInner (ltc cf) a (k+1) dd=if ltc cf dd[k+1]! dd[k]! =true then insInner (ltc cf) a k (swp dd (k+1) k)else dd:=by
    rw[insInner];simp only[gt_iff_lt,show a<k+1 by omega,decide_true,Bool.true_and]
   simp only[go_sem];refine aIf_by (fun g2=>?_) (fun g2=>?_)
   ·rw[if_pos (by unfold ltc;exact decide_eq_true g2)]at hu
    simp only[go_sem,Aa];refine Ag [.rd 0 false,.rd 1 false,.rd 2 false,.rd 3 false,.rd 4 false,.rd 5 false,.rd 6 false,.rd 7 false,.rd 8 false,.rd 9 true,.rd 10 false,.rd 11 false,.rd 12 false,.rd 13 true,.rd 14 false,.ef 15 [],.rd 16 false,.ef 17 []] ?_;have q3:=An (en:=en) (d:=dd.setIfInBounds (k+1) dd[k]!) (j:=k) (by rw[Array.size_setIfInBounds];omega);simp only[go_sem,f0,f1,f3,f9,ek,Ab,q1,q2,e4,e5,hl,ho,hce,Dk,q3,Array.size_setIfInBounds];refine⟨by omega,by omega,by omega,by omega,by omega,by omega,by omega,by omega,k+1,by omega,k,swp dd (k+1) k,rfl,by omega,by rw[Bz];exact hdd,by rw[←hu,hJ],rfl,f2,f8,rfl⟩
   ·rw[if_neg (by unfold ltc;rw[decide_eq_false g2];decide)]at hu
    have out:=out hu;simp only[go_sem,f0,f1,f2,f3,f8,A2 i (by omega)];exact⟨e-(i+1),by omega,i+1,dd,rfl,by omega,hdd,out,rfl,rfl⟩
  ·have out:=out (by
    cases j with
    |zero=>rfl
    |succ k=>rw[insInner];simp only[gt_iff_lt,show¬a<k+1 by omega,decide_false,Bool.false_and,Bool.false_eq_true,if_false])
   simp only[go_sem,f0,f1,f2,f3,f8,f9,decide_eq_false g1,A2 i (by omega)];exact⟨e-(i+1),by omega,i+1,dd,rfl,by omega,hdd,out,rfl,rfl⟩
 ·simp only[go_sem,Aa]
  unfold insOuter at hI;rw[if_neg (by omega)]at hI;rw[hI];exact Ac (r:=.tup []) rfl rfl):p:=h
namespace Go.Proofs.YtmifmncabejffaaGreat.F
open Go Go.Av Go.Sort
section
variable{α:Type}[Inhabited α]{en:α→List AV}(hl:∀x,(en x).length=4)(ho:∀x,(en x).all AV.one=true){cf:α→α→Int}{g:Nat}{β:St}(hC:∀σ',(∀x o,β x=some o→σ' x=some o)→∀x y,AT Tryz.prog g [.agg (en x),.agg (en y)] σ' fun r σ''=>r=int (cf x y)∧σ''=σ')
variable{σ:St}{b cap:Nat}{d:Array α}(hb:σ b=some (.rows 4 (rw' en d) false cap))(hn:β b=none)(hs:∀x o,β x=some o→σ x=some o){n:Nat}(hd:d.size=n)(hsz:n≤1000000000000)
include hl ho hC hb hn hs hd hsz
abbrev Aj5:=Tryz.func214
abbrev Nv:Nat:=4
theorem I4{a e:Nat}(he:e≤n)(ha:a≤n):AT Tryz.prog 214 [slv b n cap,int a,int e,fnv g] σ fun _ σ'=>σ'=σ.set b (.rows 4 (rw' en (insertionSort (ltc cf) d a e)) false cap):=by
 have hce:=Nat.add_zero;have zh1:Nv=4:=rfl;exact rqq1
end
end Go.Proofs.YtmifmncabejffaaGreat.F
theorem Go.Proofs.YtmifmncabejffaaGreat.rqq2{p:Prop}(h:p:=by
 refine AT.ob Aj6 rfl ?_;simp only[go_sem,Aa];refine⟨fun m fr σ'=>∃(r:Nat) (d':Array α),m=n-r∧r≤n∧d'.size=n∧siftDown (ltc cf) hi f r d'=siftDown (ltc cf) hi f lo d∧σ'=σ.set b (.rows W3 (rw' en d') false cap)∧fr 0=slv b n cap∧fr 2=int hi∧fr 3=int f∧fr 4=fnv g∧fr 10=int r,⟨_,lo,d,rfl,hlo,hd,rfl,(Bv hb).symm,rfl,rfl,rfl,rfl,rfl⟩,?_⟩;rintro m fr σ' ⟨r,dd,rfl,hr,hdd,hI,rfl,f0,f2,f3,f4,f10⟩;have w1:IntKind.i64.wrap (IntKind.i64.wrap (2*(r:Int))+1)=((2*r+1:Nat):Int):=by rw[Ai (x:=2*(r:Int)) (by omega),Ai (by omega)];omega
 simp only[go_sem,Aa,f0,f2,f3,f4,f10,w1];refine aIf_by (fun hge=>?_) (fun hge=>?_)
 ·simp only[go_sem,Aa]
  rw[←hI,Hr (by omega)];exact Ac (r:=.tup []) rfl rfl
 ·have hlt:2*r+1<hi:=by omega
  rw[Nh hlt]at hI;have hch:=W8 (lt:=ltc cf) (f:=f) (d:=dd) hlt;simp only[go_sem];refine Ag [.rd 0 false,.rd 1 false,.rd 2 false,.rd 3 false,.rd 4 false,.rd 5 false,.rd 6 false,.rd 7 false,.rd 8 false,.rd 9 false,.rd 10 false,.rd 11 true,.rd 12 false,.rd 13 false,.rd 14 false,.rd 15 false,.rd 16 false,.rd 17 false,.rd 18 true,.ef 19 [],.rd 20 false,.rd 21 false] ?_;apply H8 (fun fr σ'=>σ'=σ.set b (.rows W3 (rw' en dd) false cap)∧fr 0=slv b n cap∧fr 2=int hi∧fr 3=int f∧fr 4=fnv g∧fr 10=int r∧fr 11=int (chd (ltc cf) hi f r dd))
  case h1=>
   intro key;have w2:IntKind.i64.wrap (((2*r+1:Nat):Int)+1)=((2*r+2:Nat):Int):=by rw[Ai (by omega)];omega
   by_cases g1:((2*r+2:Nat):Int)<hi
   ·have w3:IntKind.i64.wrap ((f:Int)+((2*r+1:Nat):Int))=((f+(2*r+1):Nat):Int):=by rw[Ai (by omega)];omega
    have w4:IntKind.i64.wrap (((f+(2*r+1):Nat):Int)+1)=((f+(2*r+2):Nat):Int):=by rw[Ai (by omega)];omega
    have q1:=An (en:=en) (d:=dd) (j:=f+(2*r+1)) (by omega);have q2:=An (en:=en) (d:=dd) (j:=f+(2*r+2)) (by omega);simp only[go_sem,f0,f2,f3,f4,f10,w2,w3,w4,decide_eq_true g1,Ab,q1,q2,A8 hl];refine⟨by omega,by omega,by omega,by omega,(hC _ (Ak hn hs) _ _).mono ?_⟩;rintro _ σ1 ⟨rfl,rfl⟩;simp only[go_sem];refine aIf_by (fun g2=>?_) (fun g2=>?_)
    ·simp only[go_sem,w2]
     refine key _ _ ⟨rfl,f0,f2,f3,f4,f10,?_⟩;unfold chd;rw[if_pos ⟨by omega,decide_eq_true g2⟩];rfl
    ·simp only[go_sem,w2]
     refine key _ _ ⟨rfl,f0,f2,f3,f4,f10,?_⟩;unfold chd;rw[if_neg (fun h=>g2 (of_decide_eq_true h.2))];rfl
   ·simp only[go_sem,f0,f2,f3,f4,f10,w2,decide_eq_false g1]
    refine key _ _ ⟨rfl,f0,f2,f3,f4,f10,?_⟩;unfold chd;rw[if_neg (fun h=>g1 (by omega))];rfl
  case h2=>
   clear f0 f2 f3 f4 f10 fr;generalize chd (ltc cf) hi f r dd=c at*;rintro fr σ1 ⟨rfl,f0,f2,f3,f4,f10,f11⟩;have w5:IntKind.i64.wrap ((f:Int)+(r:Int))=((f+r:Nat):Int):=by rw[Ai (by omega)];omega
   have w6:IntKind.i64.wrap ((f:Int)+(c:Int))=((f+c:Nat):Int):=by rw[Ai (by omega)];omega
   have q1:=An (en:=en) (d:=dd) (j:=f+r) (by omega);have q2:=An (en:=en) (d:=dd) (j:=f+c) (by omega);refine Ag [.rd 0 false,.rd 1 false,.rd 2 false,.rd 3 false,.rd 4 false,.rd 5 false,.rd 6 true,.rd 7 false,.rd 8 false,.rd 9 false,.rd 10 false,.rd 11 false,.rd 12 true,.ef 13 [],.rd 14 false,.rd 15 false] ?_;simp only[go_sem,f0,f2,f3,f4,f10,f11,w5,w6,Ab,q1,q2,A8 hl];refine⟨by omega,by omega,by omega,by omega,(hC _ (Ak hn hs) _ _).p ?_⟩;simp only[go_sem];refine aIf_by (fun g2=>?_) (fun g2=>?_)
   ·rw[if_pos (by unfold ltc;exact decide_eq_true g2)]at hI
    simp only[go_sem];refine Ag [.rd 0 false,.rd 1 false,.rd 2 false,.rd 3 false,.rd 4 false,.rd 5 false,.rd 6 false,.rd 7 false,.rd 8 false,.rd 9 false,.rd 10 false,.rd 11 false,.rd 12 false,.rd 13 true,.rd 14 false,.rd 15 false,.rd 16 false,.rd 17 false,.rd 18 false,.rd 19 true,.rd 20 false,.ef 21 [],.rd 22 false,.ef 23 []] ?_;have q3:=An (en:=en) (d:=dd.setIfInBounds (f+r) dd[f+c]!) (j:=f+c) (by rw[Array.size_setIfInBounds];omega);simp only[go_sem,f0,f2,f3,f4,f10,f11,w5,w6,Ab,q1,q2,A8 hl,Dt hl,hl,ho,hce,Dk,q3,Array.size_setIfInBounds];refine⟨by omega,by omega,by omega,by omega,by omega,by omega,by omega,by omega,n-c,by omega,c,swp dd (f+r) (f+c),rfl,by omega,by rw[Bz];exact hdd,hI,rfl,rfl⟩
   ·rw[if_neg (by unfold ltc;rw[decide_eq_false g2];decide)]at hI
    simp only[go_sem];rw[←hI];exact Ac (r:=.tup []) rfl rfl):p:=h
theorem Go.Proofs.YtmifmncabejffaaGreat.rqq3{p:Prop}(h:p:=by
 refine AT.ob Aj7 rfl ?_;have w1:IntKind.i64.wrap ((e:Int)-1)=((e-1:Nat):Int):=by rw[Ai (by omega)];omega
 simp only[go_sem,Aa,w1];refine⟨fun m fr σ'=>∃(i j:Nat) (d':Array α),m=j-i∧j<n∧i≤n∧d'.size=n∧reverseLoop i j d'=reverseRange d a e∧σ'=σ.set b (.rows Aay (rw' en d') false cap)∧fr 0=slv b n cap∧fr 8=int i∧fr 9=int j,⟨_,a,e-1,d,rfl,by omega,by omega,hd,rfl,(Bv hb).symm,rfl,rfl,rfl⟩,?_⟩;rintro m fr σ' ⟨i,j,dd,rfl,hj,hi,hdd,hI,rfl,f0,f8,f9⟩;rw[Ae4]at hI;simp only[go_sem,f8,f9];refine aIf_by (fun hlt=>?_) (fun hlt=>?_)
 ·have w2:IntKind.i64.wrap ((j:Int)-1)=((j-1:Nat):Int):=by rw[Ai (by omega)];omega
  have q1:=An (en:=en) (d:=dd) (j:=i) (by omega);have q2:=An (en:=en) (d:=dd) (j:=j) (by omega);have q3:=An (en:=en) (d:=dd.setIfInBounds i dd[j]!) (j:=j) (by rw[Array.size_setIfInBounds];omega);rw[if_pos (by omega)]at hI;simp only[go_sem,Aa];refine Ag [.rd 0 false,.rd 1 false,.rd 2 false,.rd 3 false,.rd 4 false,.rd 5 false,.rd 6 false,.rd 7 true,.rd 8 false,.rd 9 false,.rd 10 false,.rd 11 true,.rd 12 false,.ef 13 [],.rd 14 false,.ef 15 []] ?_;simp only[go_sem,f0,f8,f9,Ab,q1,q2,A8 hl,Dt hl,hl,ho,hce,Dk,q3,Array.size_setIfInBounds,w2,A2 i (by omega)];refine⟨by omega,by omega,by omega,by omega,by omega,by omega,by omega,by omega,j-1-(i+1),by omega,i+1,j-1,swp dd i j,rfl,by omega,by omega,by rw[Bz];exact hdd,hI,rfl,rfl,rfl⟩
 ·rw[if_neg (by omega)]at hI
  simp only[go_sem];rw[←hI];exact Ac (r:=.tup []) rfl rfl):p:=h
namespace Go.Proofs.YtmifmncabejffaaGreat.F
open Go Go.Av Go.Sort
section
variable{α:Type}[Inhabited α]{en:α→List AV}(hl:∀x,(en x).length=4)(ho:∀x,(en x).all AV.one=true){cf:α→α→Int}{g:Nat}{β:St}(hC:∀σ',(∀x o,β x=some o→σ' x=some o)→∀x y,AT Tryz.prog g [.agg (en x),.agg (en y)] σ' fun r σ''=>r=int (cf x y)∧σ''=σ')
variable{σ:St}{b cap:Nat}{d:Array α}(hb:σ b=some (.rows 4 (rw' en d) false cap))(hn:β b=none)(hs:∀x o,β x=some o→σ x=some o){n:Nat}(hd:d.size=n)(hsz:n≤1000000000000)
include hl ho hC hb hn hs hd hsz
abbrev Aj6:=Tryz.func234
abbrev W3:Nat:=4
theorem Mg{lo hi f:Nat}(hf:f+hi≤n)(hlo:lo≤n):AT Tryz.prog 234 [slv b n cap,int lo,int hi,int f,fnv g] σ fun _ σ'=>σ'=σ.set b (.rows 4 (rw' en (siftDown (ltc cf) hi f lo d)) false cap):=by
 have hce:=Nat.add_zero;have zh1:W3=4:=rfl;exact rqq2
omit hl ho hC hb hn hs hd hsz in
theorem Et{lt:α→α→Bool}{hi f:Nat}:∀(m r:Nat) (d:Array α),hi-r≤m→(siftDown lt hi f r d).size=d.size
 |0,r,d,h=>by rw[Hr (by omega)]
 |m+1,r,d,h=>by
  by_cases h1:2*r+1<hi
  ·have hc:=W8 (lt:=lt) (f:=f) (d:=d) h1
   rw[Nh h1];split
   ·rw[Et m _ _ (by omega),Bz]
   ·rfl
  ·rw[Hr h1]
theorem Td{a e:Nat}(he:e≤n)(ha:a<e):AT Tryz.prog 215 [slv b n cap,int a,int e,fnv g] σ fun _ σ'=>σ'=σ.set b (.rows 4 (rw' en (heapSort (ltc cf) d a e)) false cap):=by
 refine AT.ob Tryz.func215 rfl ?_;have w1:IntKind.i64.wrap ((e:Int)-a)=((e-a:Nat):Int):=by rw[Ai (by omega)];omega
 have w2:IntKind.i64.wrap ((IntKind.i64.wrap (((e-a:Nat):Int)-1)).tdiv 2)=((((e-a-1)/2+1:Nat):Int)-1):=by
  rw[Ai (x:=((e-a:Nat):Int)-1) (by omega),Int.tdiv_eq_ediv_of_nonneg (by omega),Ai (by omega)];omega
 simp only[go_sem,Aa,w1,w2];refine⟨fun m fr σ'=>∃(k:Nat) (d':Array α),m=k+1∧k≤n∧d'.size=n∧heapBuild (ltc cf) (e-a) a k d'=heapBuild (ltc cf) (e-a) a ((e-a-1)/2+1) d∧σ'=σ.set b (.rows 4 (rw' en d') false cap)∧fr 0=slv b n cap∧fr 3=fnv g∧fr 8=int a∧fr 9=int 0∧fr 10=int (e-a:Nat)∧fr 11=int ((k:Int)-1),⟨_,_,d,rfl,by omega,hd,rfl,(Bv hb).symm,rfl,rfl,rfl,rfl,rfl,rfl⟩,?_⟩;rintro m fr σ' ⟨k,dd,rfl,hk,hdd,hI,rfl,f0,f3,f8,f9,f10,f11⟩;simp only[go_sem,f11];refine aIf_by (fun hge=>?_) (fun hge=>?_)
 ·obtain⟨j,rfl⟩:∃j,k=j+1:=⟨k-1,by omega⟩
  have ej:((j+1:Nat):Int)-1=(j:Int):=by omega
  simp only[go_sem,Aa,f0,f3,f8,f10,f11,ej];refine(Mg hl ho hC (σ:=σ.set b (.rows 4 (rw' en dd) false cap)) (d:=dd) Ab hn (Ak hn hs) hdd hsz (by omega) (by omega)).mono ?_;rintro _ σ1 rfl;have w3:IntKind.i64.wrap ((j:Int)-1)=(j:Int)-1:=Ai (by omega);simp only[go_sem,f0,f3,f8,f9,f10,f11,ej,w3,hdd];exact⟨j+1,by omega,j,siftDown (ltc cf) (e-a) a j dd,rfl,by omega,by rw[Et _ _ _ (Nat.le_refl _)];exact hdd,hI,rfl,rfl⟩
 ·have hk0:k=0:=by omega
  subst hk0;have w4:IntKind.i64.wrap (((e-a:Nat):Int)-1)=((e-a:Nat):Int)-1:=Ai (by omega);simp only[go_sem,Aa,f0,f3,f8,f9,f10,f11,w4];have hI:dd=heapBuild (ltc cf) (e-a) a ((e-a-1)/2+1) d:=hI;have hfin:heapSort (ltc cf) d a e=heapPop (ltc cf) a (e-a) dd:=by rw[hI];rfl
  refine⟨fun m fr σ'=>∃(k:Nat) (d':Array α),m=k+1∧k≤e-a∧d'.size=n∧heapPop (ltc cf) a k d'=heapPop (ltc cf) a (e-a) dd∧σ'=σ.set b (.rows 4 (rw' en d') false cap)∧fr 0=slv b n cap∧fr 3=fnv g∧fr 8=int a∧fr 9=int 0∧fr 12=int ((k:Int)-1),⟨_,_,dd,rfl,by omega,hdd,rfl,rfl,f0,f3,f8,f9,rfl⟩,?_⟩;clear f0 f3 f8 f9 f10 f11 fr hI;rintro m fr σ' ⟨k,de,rfl,hk,hde,hI,rfl,f0,f3,f8,f9,f12⟩;simp only[go_sem,f12];refine aIf_by (fun hge=>?_) (fun hge=>?_)
  ·obtain⟨j,rfl⟩:∃j,k=j+1:=⟨k-1,by omega⟩
   have ej:((j+1:Nat):Int)-1=(j:Int):=by omega
   have w5:IntKind.i64.wrap ((a:Int)+(j:Int))=((a+j:Nat):Int):=by rw[Ai (by omega)];omega
   have q1:=An (en:=en) (d:=de) (j:=a) (by omega);have q2:=An (en:=en) (d:=de) (j:=a+j) (by omega);have q3:=An (en:=en) (d:=de.setIfInBounds a de[a+j]!) (j:=a+j) (by rw[Array.size_setIfInBounds];omega);simp only[go_sem,Aa,f0,f3,f8,f9,f12,ej];refine Ag [.rd 0 false,.rd 1 false,.rd 2 false,.rd 3 false,.rd 4 false,.rd 5 false,.rd 6 false,.rd 7 false,.rd 8 false,.rd 9 false,.rd 10 false,.rd 11 true,.rd 12 false,.rd 13 false,.rd 14 false,.rd 15 true,.rd 16 false,.ef 17 [],.rd 18 false,.ef 19 []] ?_;simp only[go_sem,f0,f3,f8,f9,f12,ej,w5,Ab,q1,q2,A8 hl,Dt hl,hl,ho,Dk,q3,Array.size_setIfInBounds];refine⟨by omega,by omega,by omega,by omega,by omega,by omega,by omega,by omega,?_⟩;have hsw:(swp de a (a+j)).size=n:=by rw[Bz];exact hde
   refine(Mg hl ho hC (lo:=0) (hi:=j) (f:=a) (σ:=σ.set b (.rows 4 (rw' en (swp de a (a+j))) false cap)) (d:=swp de a (a+j)) Ab hn (Ak hn hs) hsw hsz (by omega) (by omega)).mono ?_;rintro _ σ1 rfl;have w3:IntKind.i64.wrap ((j:Int)-1)=(j:Int)-1:=Ai (by omega);simp only[go_sem,f0,f3,f8,f9,f12,ej,w3];exact⟨j+1,by omega,j,siftDown (ltc cf) j a 0 (swp de a (a+j)),rfl,by omega,by rw[Et _ _ _ (Nat.le_refl _)];exact hsw,hI,rfl,rfl⟩
  ·have hk0:k=0:=by omega
   subst hk0;simp only[go_sem];rw[hfin,←hI];exact Ac (r:=.tup []) rfl rfl
omit hl ho hC hb hn hs hd hsz in
theorem Ae4{i j:Nat}{d:Array α}:reverseLoop i j d=if i<j then reverseLoop (i+1) (j-1) (swp d i j)else d:=by rw[reverseLoop]
abbrev Aj7:=Tryz.func218
abbrev Aay:Nat:=4
omit hC hn hs in
theorem Yc{a e:Nat}(he:e≤n)(ha:a<e):AT Tryz.prog 218 [slv b n cap,int a,int e,fnv g] σ fun _ σ'=>σ'=σ.set b (.rows 4 (rw' en (reverseRange d a e)) false cap):=by
 have hce:=Nat.add_zero;have zh1:Aay=4:=rfl;exact rqq3
end
end Go.Proofs.YtmifmncabejffaaGreat.F
theorem Go.Proofs.YtmifmncabejffaaGreat.rqq4{p:Prop}(h:p:=by
 unfold median;have h1:=Cv (d:=d) (lt:=lt) (k:=k) ha hc;have h2:=Cv (d:=d) (lt:=lt) (k:=(order2 lt d a c k).2.2) h1.2.1 he;have h3:=Cv (d:=d) (lt:=lt) (k:=(order2 lt d (order2 lt d a c k).2.1 e (order2 lt d a c k).2.2).2.2) h1.1 h2.1;exact⟨h3.2.1,by show(order2 lt d _ _ _).2.2≤_;omega⟩):p:=h
theorem Go.Proofs.YtmifmncabejffaaGreat.rqq5{p:Prop}(h:p:=by
 refine AT.ob Aj8 rfl ?_;have q1:=An (en:=en) (d:=d) (j:=a) (by omega);have q2:=An (en:=en) (d:=d) (j:=c) (by omega);simp only[go_sem];refine Ag [.rd 0 false,.rd 1 false,.rd 2 false,.rd 3 false,.rd 4 true,.rd 5 false,.rd 6 false,.rd 7 false,.rd 8 true,.ef 9 [],.rd 10 false] ?_;simp only[go_sem,hb,q1,q2,A8 hl];refine⟨by omega,by omega,by omega,by omega,(hC _ hs _ _).p ?_⟩;simp only[go_sem];refine aIf_by (fun g2=>?_) (fun g2=>?_)
 ·have e:order2 (ltc cf) d a c k=(c,a,k+1):=by unfold order2;exact if_pos (decide_eq_true g2)
  simp only[go_sem,hp,A2 k (by omega)];refine Ac (r:=.tup [int c,int a]) rfl ?_;rw[e];exact⟨rfl,rfl⟩
 ·have e:order2 (ltc cf) d a c k=(a,c,k):=by unfold order2;exact if_neg (fun h=>g2 (of_decide_eq_true h))
  simp only[go_sem];refine Ac (r:=.tup [int a,int c]) rfl ?_;rw[e];exact⟨rfl,(Bv hp).symm⟩):p:=h
namespace Go.Proofs.YtmifmncabejffaaGreat.F
open Go Go.Av Go.Sort
def I3:Hint→Int
 | .unknown=>0
 | .increasing=>1
 | .decreasing=>2
section
variable{α:Type}[Inhabited α]{en:α→List AV}(hl:∀x,(en x).length=4)(ho:∀x,(en x).all AV.one=true){cf:α→α→Int}{g:Nat}{β:St}(hC:∀σ',(∀x o,β x=some o→σ' x=some o)→∀x y,AT Tryz.prog g [.agg (en x),.agg (en y)] σ' fun r σ''=>r=int (cf x y)∧σ''=σ')
variable{σ:St}{b cap:Nat}{d:Array α}(hb:σ b=some (.rows 4 (rw' en d) false cap))(hn:β b=none)(hs:∀x o,β x=some o→σ x=some o){n:Nat}(hd:d.size=n)(hsz:n≤1000000000000)
variable{p:Nat}(hpb:p≠b)(hpn:β p=none)
theorem Cv{lt:α→α→Bool}{a c m k:Nat}(ha:a<m)(hc:c<m):(order2 lt d a c k).1<m∧(order2 lt d a c k).2.1<m∧(order2 lt d a c k).2.2≤k+1:=by
 unfold order2;split
 ·exact⟨hc,ha,Nat.le_refl _⟩
 ·exact⟨ha,hc,Nat.le_succ _⟩
theorem Na{lt:α→α→Bool}{a c e m k:Nat}(ha:a<m)(hc:c<m)(he:e<m):(median lt d a c e k).1<m∧(median lt d a c e k).2≤k+3:=by
 exact rqq4
include hl ho hC hb hn hs hd hsz hpb hpn
abbrev Aj8:=Tryz.func241
theorem Es{a c k:Nat}(ha:a<n)(hc:c<n)(hk:k≤1000)(hp:σ p=some (.cells [int k])):AT Tryz.prog 241 [slv b n cap,int a,int c,ptr p,fnv g] σ fun r σ'=>r= .tup [int (order2 (ltc cf) d a c k).1,int (order2 (ltc cf) d a c k).2.1]∧σ'=σ.set p (.cells [int (order2 (ltc cf) d a c k).2.2]):=by
 exact rqq5
theorem Ep{a c e k:Nat}(ha:a<n)(hc:c<n)(he:e<n)(hk:k≤990)(hp:σ p=some (.cells [int k])):AT Tryz.prog 236 [slv b n cap,int a,int c,int e,ptr p,fnv g] σ fun r σ'=>r=int (median (ltc cf) d a c e k).1∧σ'=σ.set p (.cells [int (median (ltc cf) d a c e k).2]):=by
 refine AT.ob Tryz.func236 rfl ?_;have hm:median (ltc cf) d a c e k=((order2 (ltc cf) d (order2 (ltc cf) d a c k).1 (order2 (ltc cf) d (order2 (ltc cf) d a c k).2.1 e (order2 (ltc cf) d a c k).2.2).1 (order2 (ltc cf) d (order2 (ltc cf) d a c k).2.1 e (order2 (ltc cf) d a c k).2.2).2.2).2.1,(order2 (ltc cf) d (order2 (ltc cf) d a c k).1 (order2 (ltc cf) d (order2 (ltc cf) d a c k).2.1 e (order2 (ltc cf) d a c k).2.2).1 (order2 (ltc cf) d (order2 (ltc cf) d a c k).2.1 e (order2 (ltc cf) d a c k).2.2).2.2).2.2):=rfl;rw[hm];have l1:=Cv (d:=d) (lt:=ltc cf) (k:=k) ha hc;generalize hx1:order2 (ltc cf) d a c k=x1 at l1⊢;have l2:=Cv (d:=d) (lt:=ltc cf) (k:=x1.2.2) l1.2.1 he;generalize hx2:order2 (ltc cf) d x1.2.1 e x1.2.2=x2 at l2⊢;have l3:=Cv (d:=d) (lt:=ltc cf) (k:=x2.2.2) l1.1 l2.1;generalize hx3:order2 (ltc cf) d x1.1 x2.1 x2.2.2=x3 at l3⊢;simp only[go_sem];refine(Es hl ho hC hb hn hs hd hsz hpb hpn ha hc (by omega) hp).p ?_;rw[hx1];simp only[go_sem];refine(Es hl ho hC (σ:=σ.set p (.cells [int x1.2.2])) (by rw[Ad (Ne.symm hpb)];exact hb) hn (Ak hpn hs) hd hsz hpb hpn l1.2.1 he (by omega) Ab).p ?_;rw[hx2];simp only[go_sem];refine(Es hl ho hC (σ:=σ.set p (.cells [int x2.2.2])) (by rw[Ad (Ne.symm hpb)];exact hb) hn (Ak hpn hs) hd hsz hpb hpn l1.1 l2.1 (by omega) Ab).p ?_;rw[hx3];simp only[go_sem];exact Ac (r:=int x3.2.1) rfl ⟨rfl,rfl⟩
theorem Eo{a k:Nat}(ha:1≤a)(ha2:a+1<n)(hk:k≤990)(hp:σ p=some (.cells [int k])):AT Tryz.prog 235 [slv b n cap,int a,ptr p,fnv g] σ fun r σ'=>r=int (medianAdjacent (ltc cf) d a k).1∧σ'=σ.set p (.cells [int (medianAdjacent (ltc cf) d a k).2]):=by
 refine AT.ob Tryz.func235 rfl ?_;have w1:IntKind.i64.wrap ((a:Int)-1)=((a-1:Nat):Int):=by rw[Ai (by omega)];omega
 simp only[go_sem,w1,A2 a (by omega)];refine(Ep hl ho hC hb hn hs hd hsz hpb hpn (by omega) (by omega) ha2 hk hp).p ?_;simp only[go_sem];exact Ac (r:=int (medianAdjacent (ltc cf) d a k).1) rfl ⟨rfl,rfl⟩
omit hpb hpn in
theorem P6{a e:Nat}(he:e≤n)(ha:a+12<e):AT Tryz.prog 217 [slv b n cap,int a,int e,fnv g] σ fun r σ'=>r= .tup [int (choosePivot (ltc cf) d a e).1,int (I3 (choosePivot (ltc cf) d a e).2)]∧σ'=σ:=by
 refine AT.ob Tryz.func217 rfl ?_;obtain⟨q,hq⟩:∃q,q=(e-a)/4:=⟨_,rfl⟩;have w1:IntKind.i64.wrap ((e:Int)-a)=((e-a:Nat):Int):=by rw[Ai (by omega)];omega
 have w2:IntKind.i64.wrap (((e-a:Nat):Int).tdiv 4)=(q:Int):=by rw[Int.tdiv_eq_ediv_of_nonneg (by omega),Ai (by omega)];omega
 have w3:IntKind.i64.wrap ((a:Int)+IntKind.i64.wrap ((q:Int)*1))=((a+q:Nat):Int):=by rw[Ai (x:=(q:Int)*1) (by omega),Ai (by omega)];omega
 have w4:IntKind.i64.wrap ((a:Int)+IntKind.i64.wrap ((q:Int)*2))=((a+q*2:Nat):Int):=by rw[Ai (x:=(q:Int)*2) (by omega),Ai (by omega)];omega
 have w5:IntKind.i64.wrap ((a:Int)+IntKind.i64.wrap ((q:Int)*3))=((a+q*3:Nat):Int):=by rw[Ai (x:=(q:Int)*3) (by omega),Ai (by omega)];omega
 simp only[go_sem,w1];refine Al fun p hp hpx=>?_;have hpb:p≠b:=fun h=>hpx b _ hb h.symm;have hpn:β p=none:=by
  cases h:β p with
  |none=>rfl
  |some o=>exact absurd rfl (hpx p o (hs p o h))
 have hb1:∀ob,(σ.set p ob) b=some (.rows 4 (rw' en d) false cap):=fun ob=>by rw[Ad (Ne.symm hpb)];exact hb
 have cp:∀r:Nat×Nat,r=(if 8≤e-a then(if 50≤e-a then median (ltc cf) d (medianAdjacent (ltc cf) d (a+q) 0).1 (medianAdjacent (ltc cf) d (a+q*2) (medianAdjacent (ltc cf) d (a+q) 0).2).1 (medianAdjacent (ltc cf) d (a+q*3) (medianAdjacent (ltc cf) d (a+q*2) (medianAdjacent (ltc cf) d (a+q) 0).2).2).1 (medianAdjacent (ltc cf) d (a+q*3) (medianAdjacent (ltc cf) d (a+q*2) (medianAdjacent (ltc cf) d (a+q) 0).2).2).2 else median (ltc cf) d (a+q) (a+q*2) (a+q*3) 0)else(a+q*2,0))→choosePivot (ltc cf) d a e=(r.1,if r.2=0 then .increasing else if r.2=12 then .decreasing else .unknown):=fun r h=>by
  subst h;subst hq;unfold choosePivot;simp only[Nat.mul_one]
 rw[if_pos (show 8≤e-a by omega)]at cp;have d8:=decide_eq_true (show(8:Int)≤((e-a:Nat):Int) by omega);have hm1:∀{a c k:Nat},1≤a→a+1<n→(medianAdjacent (ltc cf) d a k).1<n∧(medianAdjacent (ltc cf) d a k).2≤k+3:=fun h1 h2=>Na (by omega) (by omega) h2;simp only[go_sem,w2,w3,w4,w5,w1,d8];apply H8 (fun fr σ'=>∃r:Nat×Nat,fr 13=int r.1∧fr 55=int r.2∧σ'=σ.set p (.cells [int r.2])∧choosePivot (ltc cf) d a e=(r.1,if r.2=0 then .increasing else if r.2=12 then .decreasing else .unknown))
 case h1=>
  intro key;refine aIf_by (fun g1=>?_) (fun g1=>?_)
  ·rw[if_pos (show 50≤e-a by omega)]at cp
   have l1:=hm1 (a:=a+q) (c:=0) (k:=0) (by omega) (by omega);simp only[go_sem];refine(Eo hl ho hC (σ:=σ.set p (.cells [int 0])) (hb1 _) hn (Ak hpn hs) hd hsz hpb hpn (a:=a+q) (k:=0) (by omega) (by omega) (by omega) Ab).p ?_;generalize medianAdjacent (ltc cf) d (a+q) 0=x1 at cp l1⊢;have l2:=hm1 (a:=a+q*2) (c:=0) (k:=x1.2) (by omega) (by omega);simp only[go_sem];refine(Eo hl ho hC (σ:=σ.set p (.cells [int x1.2])) (hb1 _) hn (Ak hpn hs) hd hsz hpb hpn (a:=a+q*2) (k:=x1.2) (by omega) (by omega) (by omega) Ab).p ?_;generalize medianAdjacent (ltc cf) d (a+q*2) x1.2=x2 at cp l2⊢;have l3:=hm1 (a:=a+q*3) (c:=0) (k:=x2.2) (by omega) (by omega);simp only[go_sem];refine(Eo hl ho hC (σ:=σ.set p (.cells [int x2.2])) (hb1 _) hn (Ak hpn hs) hd hsz hpb hpn (a:=a+q*3) (k:=x2.2) (by omega) (by omega) (by omega) Ab).p ?_;generalize medianAdjacent (ltc cf) d (a+q*3) x2.2=x3 at cp l3⊢;simp only[go_sem];refine(Ep hl ho hC (σ:=σ.set p (.cells [int x3.2])) (hb1 _) hn (Ak hpn hs) hd hsz hpb hpn (a:=x1.1) (c:=x2.1) (e:=x3.1) (k:=x3.2) (by omega) (by omega) (by omega) (by omega) Ab).p ?_;generalize median (ltc cf) d x1.1 x2.1 x3.1 x3.2=r at cp⊢;simp only[go_sem,Ab];refine key _ _ ?_;exact⟨r,rfl,rfl,rfl,cp r rfl⟩
  ·rw[if_neg (show¬50≤e-a by omega)]at cp
   simp only[go_sem];refine(Ep hl ho hC (σ:=σ.set p (.cells [int 0])) (hb1 _) hn (Ak hpn hs) hd hsz hpb hpn (a:=a+q) (c:=a+q*2) (e:=a+q*3) (k:=0) (by omega) (by omega) (by omega) (by omega) Ab).p ?_;generalize median (ltc cf) d (a+q) (a+q*2) (a+q*3) 0=r at cp⊢;simp only[go_sem,Ab];refine key _ _ ?_;exact⟨r,rfl,rfl,rfl,cp r rfl⟩
 case h2=>
  rintro fr σ1 ⟨r,f13,f55,rfl,hcp⟩;have hdr:∀v,Ey (σ.set p (.cells [int r.2])) v σ v:=fun v=>Ao (A9 hp fun _ _ h=>h);rw[hcp];simp only[go_sem,Aa,f55];refine aIf_by (fun k1=>?_) (fun k1=>?_)
  ·simp only[go_sem,Aa,f13]
   refine Ae (r:=.tup [int r.1,int 1]) rfl _ σ (hdr _) ⟨?_,rfl⟩;show _=AV.tup [int r.1,int (I3 (if r.2=0 then _ else _))];rw[if_pos (by omega)];rfl
  ·simp only[go_sem,Aa,f55]
   refine aIf_by (fun k2=>?_) (fun k2=>?_)
   ·simp only[go_sem,Aa,f13]
    refine Ae (r:=.tup [int r.1,int 2]) rfl _ σ (hdr _) ⟨?_,rfl⟩;show _=AV.tup [int r.1,int (I3 (if r.2=0 then _ else if r.2=12 then _ else _))];rw[if_neg (by omega),if_pos (by omega)];rfl
   ·simp only[go_sem,Aa,f13]
    refine Ae (r:=.tup [int r.1,int 0]) rfl _ σ (hdr _) ⟨?_,rfl⟩;show _=AV.tup [int r.1,int (I3 (if r.2=0 then _ else if r.2=12 then _ else _))];rw[if_neg (by omega),if_neg (by omega)];rfl
end
end Go.Proofs.YtmifmncabejffaaGreat.F
theorem Go.Proofs.YtmifmncabejffaaGreat.rqq6{p:Prop}(h:p:=by
 show IntKind.u64.wrap ((BitVec.ofInt 64 (x:Int)&&&BitVec.ofInt 64 (y:Int)).toNat:Int)=_;have h:x&&&y≤x:=Nat.and_le_left;rw[Mn,BitVec.toNat_and,ofI,ofI,Nat.mod_eq_of_lt hx,Nat.mod_eq_of_lt hy,Nat.mod_eq_of_lt (by omega)]):p:=h
theorem Go.Proofs.YtmifmncabejffaaGreat.rqq7{p:Prop}(h:p:=by
 refine AT.ob Aj9 rfl ?_;rw[Acr (by omega)];obtain⟨len,hlen⟩:∃len,len=e-a:=⟨_,rfl⟩;obtain⟨m,hm⟩:∃m,m=1<<<bitsLen len:=⟨_,rfl⟩;have hm2:m≤2*len:=by rw[hm];exact Tn (by omega)
 have hm1:1≤m:=by rw[hm,Nat.one_shiftLeft];exact Nat.one_le_two_pow
 obtain⟨q,hq⟩:∃q,q=len/4:=⟨_,rfl⟩;have w1:IntKind.i64.wrap ((e:Int)-a)=(len:Int):=by rw[Ai (by omega)];omega
 have w2:IntKind.i64.wrap ((len:Int).tdiv 4)=(q:Int):=by rw[Int.tdiv_eq_ediv_of_nonneg (by omega),Ai (by omega)];omega
 have w3:IntKind.i64.wrap ((a:Int)+IntKind.i64.wrap ((q:Int)*2))=((a+q*2:Nat):Int):=by rw[Ai (x:=(q:Int)*2) (by omega),Ai (by omega)];omega
 have w4:IntKind.i64.wrap (((a+q*2:Nat):Int)-1)=((a+q*2-1:Nat):Int):=by rw[Ai (by omega)];omega
 have w5:IntKind.i64.wrap (((a+q*2:Nat):Int)+1)=((a+q*2+1:Nat):Int):=by rw[Ai (by omega)];omega
 have w6:IntKind.u64.wrap (len:Int)=((UInt64.ofNat len).toNat:Int):=by rw[Mn,UInt64.toNat_ofNat']
 rw[←hlen,←hm,←hq];have d8:=decide_eq_true (show(8:Int)≤(len:Int) by omega);simp only[go_sem,w1,d8,w6];refine Al fun r hr hrx=>?_;have hrb:r≠b:=fun h=>hrx b _ hb h.symm;simp only[go_sem];refine(Ah5 (by omega)).p ?_;rw[←hm];simp only[go_sem,Aa,w2,w3,w4];refine⟨fun k fr σ'=>∃j:Nat,k=3-j∧j≤3∧(brk d a len m (a+q*2-1) j).2.size=n∧σ' b=some (.rows Sj (rw' en (brk d a len m (a+q*2-1) j).2) false cap)∧σ' r=some (.cells [u64 (brk d a len m (a+q*2-1) j).1.toNat])∧(∀x o,σ x=some o→x≠b→σ' x=some o)∧fr 0=slv b n cap∧fr 1=int a∧fr 8=int len∧fr 9= .v (.pointer (some ⟨r,0,none⟩))∧fr 10=u64 m∧fr 11=int (a+q*2-1+j:Nat),⟨_,0,rfl,by omega,hd,by rw[Ad (Ne.symm hrb)];exact hb,Ab,fun x o hx _=>A9 hr (fun _ _ h=>h) x o hx,rfl,rfl,rfl,rfl,rfl,rfl⟩,?_⟩;rintro k fr σ' ⟨j,rfl,hj,hdd,hbb,hrr,hss,f0,f1,f8,f9,f10,f11⟩;simp only[go_sem,f1,f8,f11,w2,w3,w5];refine aIf_by (fun hlt=>?_) (fun hlt=>?_)
 ·have hj3:j<3:=by omega
  have hst:brk d a len m (a+q*2-1) (j+1)=(xorNext (brk d a len m (a+q*2-1) j).1,swp (brk d a len m (a+q*2-1) j).2 (a+q*2-1+j) (a+oth len m (xorNext (brk d a len m (a+q*2-1) j).1))):=rfl;generalize brk d a len m (a+q*2-1) j=st at hdd hbb hrr hst;obtain⟨s,dd⟩:=st;have hot:oth len m (xorNext s)<len:=by rw[hm];exact Aew (by omega)
  simp only[go_sem,Aa,f9];refine(Ah0 hrr).p ?_;have v1:IntKind.u64.wrap ((m:Int)-1)=((m-1:Nat):Int):=by
   rw[show((m:Int)-1)=((m-1:Nat):Int) by omega,Mn];omega
  have v2:band .u64 ((xorNext s).toNat:Int) ((m-1:Nat):Int)=(((xorNext s).toNat&&&(m-1):Nat):Int):=Aiu (xorNext s).toNat_lt (by omega);have hand:(xorNext s).toNat&&&(m-1)≤m-1:=Nat.and_le_right;obtain⟨t,ht⟩:∃t,t=(xorNext s).toNat&&&(m-1):=⟨_,rfl⟩;rw[←ht]at v2 hand;have v3:IntKind.i64.wrap (t:Int)=(t:Int):=Ai (by omega);simp only[go_sem,f1,f8,f10,v1,v2,v3];refine D8 (fun fr σ''=>σ''=σ'.set r (.cells [u64 (xorNext s).toNat])∧fr 0=slv b n cap∧fr 1=int a∧fr 8=int len∧fr 9= .v (.pointer (some ⟨r,0,none⟩))∧fr 10=u64 m∧fr 11=int (a+q*2-1+j:Nat)∧fr 12=int (oth len m (xorNext s))) (fun g1=>?_) (fun g1=>?_) ?_
  ·have v4:IntKind.i64.wrap ((t:Int)-len)=((t-len:Nat):Int):=by rw[Ai (by omega)];omega
   have e:oth len m (xorNext s)=t-len:=by unfold oth;rw[←ht,if_pos (by omega)]
   simp only[go_sem,f0,f1,f8,f9,f10,f11,v4,e]
  ·have e:oth len m (xorNext s)=t:=by unfold oth;rw[←ht,if_neg (by omega)]
   simp only[go_sem,f0,f1,f8,f9,f10,f11,e]
  clear f0 f1 f8 f9 f10 f11 ht v1 v2 v3;generalize oth len m (xorNext s)=k at hot hst;rintro fr σ2 ⟨hσ2,f0,f1,f8,f9,f10,f11,f12⟩;obtain⟨i,hi⟩:∃i,i=a+q*2-1+j:=⟨_,rfl⟩;have hb2:σ2 b=some (.rows Sj (rw' en dd) false cap):=by rw[hσ2,Ad (Ne.symm hrb)];exact hbb
  have hr2:σ2 r=some (.cells [u64 (xorNext s).toNat]):=by rw[hσ2];exact Ab
  have hs2:∀x o,σ x=some o→x≠b→σ2 x=some o:=fun x o hx hxb=>by
   rw[hσ2,Ad (hrx x o hx)];exact hss x o hx hxb
  have hdd:dd.size=n:=hdd;have v5:IntKind.i64.wrap ((a:Int)+(k:Int))=((a+k:Nat):Int):=by rw[Ai (by omega)];omega
  have v6:IntKind.i64.wrap (((a+q*2-1+j:Nat):Int)+1)=((a+q*2-1+(j+1):Nat):Int):=by rw[Ai (by omega)];omega
  have q1:=An (en:=en) (d:=dd) (j:=a+q*2-1+j) (by omega);have q2:=An (en:=en) (d:=dd) (j:=a+k) (by omega);have q3:=An (en:=en) (d:=dd.setIfInBounds (a+q*2-1+j) dd[a+k]!) (j:=a+k) (by rw[Array.size_setIfInBounds];omega);simp only[go_sem];refine Ag [.rd 0 false,.rd 1 false,.rd 2 false,.rd 3 false,.rd 4 false,.rd 5 false,.rd 6 false,.rd 7 false,.rd 8 false,.rd 9 false,.rd 10 false,.rd 11 true,.rd 12 false,.rd 13 false,.rd 14 false,.rd 15 true,.rd 16 false,.ef 17 [],.rd 18 false,.ef 19 []] ?_;simp only[go_sem,f0,f1,f11,f12,v5,hb2,Ab,q1,q2,A8 hl,Dt hl,hl,ho,hce,Dk,q3,Array.size_setIfInBounds,v6,f8,f9,f10];refine⟨by omega,by omega,by omega,by omega,by omega,by omega,by omega,by omega,3-(j+1),by omega,j+1,rfl,by omega,by rw[hst,Bz];exact hdd,by rw[hst];rfl,by rw[Ad hrb,hst];exact hr2,fun x o hx hxb=>by rw[Ad hxb];exact hs2 x o hx hxb,rfl⟩
 ·obtain rfl:j=3:=by omega
  simp only[go_sem];refine Ae (r:=.tup []) rfl _ (σ.set b (.rows Sj (rw' en (brk d a len m (a+q*2-1) 3).2) false cap)) (Ao fun x o hx=>?_) rfl;by_cases e:x=b
  ·subst e
   rw[Ab]at hx;rw[hbb];exact hx
  ·rw[Ad e]at hx
   exact hss x o hx e):p:=h
namespace Go.Proofs.YtmifmncabejffaaGreat.F
open Go Go.Av Go.Sort
section
variable{α:Type}[Inhabited α]{en:α→List AV}(hl:∀x,(en x).length=4)(ho:∀x,(en x).all AV.one=true){cf:α→α→Int}{g:Nat}
variable{σ:St}{b cap:Nat}{d:Array α}(hb:σ b=some (.rows 4 (rw' en d) false cap)){n:Nat}(hd:d.size=n)(hsz:n≤1000000000000)
def brk(d:Array α)(a len m i0:Nat):Nat→UInt64×Array α
 |0=>(UInt64.ofNat len,d)
 |j+1=>breakStep a len m (brk d a len m i0 j) (i0+j)
theorem Tn{len:Nat}(h:0<len):1<<<bitsLen len≤2*len:=by
 unfold bitsLen;rw[if_neg (by omega),Nat.one_shiftLeft,Nat.pow_succ];have:=Nat.log2_self_le (n:=len) (by omega);omega
theorem Acr{a e:Nat}(h:8≤e-a):breakPatterns d a e=(brk d a (e-a) (1<<<bitsLen (e-a)) (a+(e-a)/4*2-1) 3).2:=by
 unfold breakPatterns;simp only[ge_iff_le,h,if_true];rfl
theorem Aiu{x y:Nat}(hx:x<18446744073709551616)(hy:y<18446744073709551616):band .u64 (x:Int) (y:Int)=((x&&&y:Nat):Int):=by
 exact rqq6
def oth(len m:Nat)(s:UInt64):Nat:=if len≤(s.toNat&&&(m-1))then(s.toNat&&&(m-1))-len else s.toNat&&&(m-1)
theorem Aew{len:Nat}{s:UInt64}(h:0<len):oth len (1<<<bitsLen len) s<len:=by
 have h1:=Tn h;have h2:s.toNat&&&(1<<<bitsLen len-1)≤1<<<bitsLen len-1:=Nat.and_le_right;unfold oth;split<;>omega
include hl ho hb hd hsz
abbrev Aj9:=Tryz.func216
abbrev Sj:Nat:=4
theorem Oy{a e:Nat}(he:e≤n)(ha:a+8≤e):AT Tryz.prog 216 [slv b n cap,int a,int e,fnv g] σ fun _ σ'=>σ'=σ.set b (.rows 4 (rw' en (breakPatterns d a e)) false cap):=by
 have hce:=Nat.add_zero;have zh1:Sj=4:=rfl;exact rqq7
end
end Go.Proofs.YtmifmncabejffaaGreat.F
theorem Go.Proofs.YtmifmncabejffaaGreat.rqq8{p:Prop}(h:p:=by
 refine AT.ob Aka rfl ?_;simp only[go_sem,Aa,A2 a (by omega)];refine⟨fun m fr σ'=>∃(s i:Nat) (d':Array α),m=s∧s≤5∧a<i∧i≤e∧d'.size=n∧partialIns (ltc cf) a e s i d'=partialInsertionSort (ltc cf) d a e∧σ'=σ.set b (.rows Jm (rw' en d') false cap)∧fr 0=slv b n cap∧fr 1=int a∧fr 2=int e∧fr 3=fnv g∧fr 9=int i∧fr 10=int ((5:Int)-s),⟨_,5,a+1,d,rfl,by omega,by omega,by omega,hd,rfl,(Bv hb).symm,rfl,rfl,rfl,rfl,rfl,rfl⟩,?_⟩;rintro m fr σ' ⟨s,i,dd,hm,h5,hi1,hi2,hdd,hI,rfl,f0,f1,f2,f3,f9,f10⟩;subst hm;simp only[go_sem,f10];refine aIf_by (fun hlt=>?_) (fun hlt=>?_)
 ·obtain⟨t,rfl⟩:∃t,m=t+1:=⟨m-1,by omega⟩
  rw[Aez]at hI;simp only[go_sem];rw[Aa];simp only[go_sem];refine Io (fun fr σ'=>σ'=σ.set b (.rows Jm (rw' en dd) false cap)∧∃j:Nat,a<j∧j≤e∧scanSorted (ltc cf) dd e i=j∧fr 0=slv b n cap∧fr 1=int a∧fr 2=int e∧fr 3=fnv g∧fr 9=int j∧fr 10=int ((5:Int)-(t+1:Nat))) ?_ ?_
  ·simp only[go_sem,Aa]
   refine⟨fun k fr σ'=>∃j:Nat,k=e-j∧a<j∧j≤e∧scanSorted (ltc cf) dd e j=scanSorted (ltc cf) dd e i∧σ'=σ.set b (.rows Jm (rw' en dd) false cap)∧fr 0=slv b n cap∧fr 1=int a∧fr 2=int e∧fr 3=fnv g∧fr 9=int j∧fr 10=int ((5:Int)-(t+1:Nat)),⟨_,i,rfl,hi1,hi2,rfl,rfl,f0,f1,f2,f3,f9,f10⟩,?_⟩;clear f0 f1 f2 f3 f9 f10 fr;rintro k fr σ' ⟨j,rfl,hj1,hj2,hJ,rfl,f0,f1,f2,f3,f9,f10⟩;rw[Aaj]at hJ;have w1:IntKind.i64.wrap ((j:Int)-1)=((j-1:Nat):Int):=by rw[Ai (by omega)];omega
   simp only[go_sem];refine Ag [.rd 0 false,.rd 1 false,.rd 2 false,.rd 3 false,.rd 4 false,.rd 5 false,.rd 6 false,.rd 7 false,.rd 8 true,.rd 9 false,.rd 10 false,.rd 11 false,.rd 12 false,.rd 13 true,.ef 14 [],.rd 15 false,.rd 16 false,.rd 17 false] ?_;by_cases g1:(j:Int)<e
   ·have q1:=An (en:=en) (d:=dd) (j:=j) (by omega)
    have q2:=An (en:=en) (d:=dd) (j:=j-1) (by omega);simp only[go_sem,f0,f1,f2,f3,f9,decide_eq_true g1,w1,Ab,q1,q2,A8 hl];refine⟨by omega,by omega,by omega,by omega,(hC _ (Ak hn hs) _ _).p ?_⟩;simp only[go_sem];refine aIf_by (fun g2=>?_) (fun g2=>?_)
    ·rw[if_neg (by unfold ltc;rw[decide_eq_true g2];simp)]at hJ
     simp only[go_sem];exact⟨j,hj1,hj2,hJ.symm,f0,f1,f2,f3,f9,f10⟩
    ·rw[if_pos ⟨by omega,by unfold ltc;exact decide_eq_false g2⟩]at hJ
     simp only[go_sem,Aa,f0,f1,f2,f3,f9,f10,A2 j (by omega)];exact⟨e-(j+1),by omega,j+1,rfl,by omega,by omega,hJ,rfl⟩
   ·rw[if_neg (by omega)]at hJ
    simp only[go_sem,f2,f9,decide_eq_false g1];exact⟨j,hj1,hj2,hJ.symm,f0,f1,f3,rfl,f10⟩
  clear f0 f1 f2 f3 f9 f10 fr;rintro fr σ' ⟨rfl,j,hj1,hj2,hJ,f0,f1,f2,f3,f9,f10⟩;rw[hJ]at hI;have w1:IntKind.i64.wrap ((j:Int)-1)=((j-1:Nat):Int):=by rw[Ai (by omega)];omega
  have w2:IntKind.i64.wrap ((e:Int)-a)=((e-a:Nat):Int):=by rw[Ai (by omega)];omega
  have w3:IntKind.i64.wrap ((j:Int)-a)=((j-a:Nat):Int):=by rw[Ai (by omega)];omega
  have w4:IntKind.i64.wrap ((e:Int)-j)=((e-j:Nat):Int):=by rw[Ai (by omega)];omega
  simp only[go_sem,f2,f9];refine aIf_by (fun g1=>?_) (fun g1=>?_)
  ·rw[if_pos (by omega)]at hI
   simp only[go_sem];rw[←hI];exact Ac (r:=boo true) rfl ⟨rfl,rfl⟩
  rw[if_neg (by omega)]at hI;simp only[go_sem,f1,f2,w2];refine aIf_by (fun g2=>?_) (fun g2=>?_)
  ·rw[if_pos (by omega)]at hI
   simp only[go_sem];rw[←hI];exact Ac (r:=boo false) rfl ⟨rfl,rfl⟩
  rw[if_neg (by omega)]at hI;simp only[go_sem];have q1:=An (en:=en) (d:=dd) (j:=j) (by omega);have q2:=An (en:=en) (d:=dd) (j:=j-1) (by omega);have q3:=An (en:=en) (d:=dd.setIfInBounds j dd[j-1]!) (j:=j-1) (by rw[Array.size_setIfInBounds];omega);refine Ag [.rd 0 false,.rd 1 false,.rd 2 false,.rd 3 false,.rd 4 false,.rd 5 false,.rd 6 false,.rd 7 false,.rd 8 false,.rd 9 true,.rd 10 false,.rd 11 false,.rd 12 false,.rd 13 true,.rd 14 false,.ef 15 [],.rd 16 false,.ef 17 []] ?_;simp only[go_sem,f0,f1,f2,f3,f9,w1,w3,Ab,q1,q2,A8 hl,Dt hl,hl,ho,hce,Dk,q3,Array.size_setIfInBounds];refine⟨by omega,by omega,by omega,by omega,by omega,by omega,by omega,by omega,?_⟩;obtain⟨d1,hd1⟩:∃d1,d1=swp dd j (j-1):=⟨_,rfl⟩;have hz1:d1.size=n:=by rw[hd1,Bz];exact hdd
  have hI:partialIns (ltc cf) a e t j (if 2≤e-j then shiftUp (ltc cf) e (j+1) (if 2≤j-a then shiftDown (ltc cf) (j-1) d1 else d1)else(if 2≤j-a then shiftDown (ltc cf) (j-1) d1 else d1))=partialInsertionSort (ltc cf) d a e:=by rw[hd1];exact hI
  have e1:Bn.rows Jm (rw' en ((dd.setIfInBounds j dd[j-1]!).setIfInBounds (j-1) dd[j]!)) false cap=Bn.rows Jm (rw' en d1) false cap:=by rw[hd1];rfl
  rw[e1];clear e1 q1 q2 q3;refine D8 (fun fr σ'=>∃d2,d2=(if 2≤j-a then shiftDown (ltc cf) (j-1) d1 else d1)∧d2.size=n∧σ'=σ.set b (.rows Jm (rw' en d2) false cap)∧fr 0=slv b n cap∧fr 1=int a∧fr 2=int e∧fr 3=fnv g∧fr 9=int j∧fr 10=int ((5:Int)-(t+1:Nat))) (fun g3=>?_) (fun g3=>?_) ?_
  ·rw[if_pos (by omega)]
   simp only[go_sem,Aa,f9,w1];refine⟨fun m fr σ'=>∃(k:Nat) (dk:Array α),m=k+1∧k<n∧dk.size=n∧shiftDown (ltc cf) k dk=shiftDown (ltc cf) (j-1) d1∧σ'=σ.set b (.rows Jm (rw' en dk) false cap)∧fr 0=slv b n cap∧fr 1=int a∧fr 2=int e∧fr 3=fnv g∧fr 9=int j∧fr 10=int ((5:Int)-(t+1:Nat))∧fr 11=int k,⟨_,j-1,d1,rfl,by omega,hz1,rfl,rfl,f0,f1,f2,f3,f9,f10,rfl⟩,?_⟩;clear f0 f1 f2 f3 f9 f10 fr;rintro m fr σ' ⟨k,dk,rfl,hk,hdk,hK,rfl,f0,f1,f2,f3,f9,f10,f11⟩;simp only[go_sem,f11];refine aIf_by (fun g4=>?_) (fun g4=>?_)
   ·obtain⟨l,rfl⟩:∃l,k=l+1:=⟨k-1,by omega⟩
    have w5:IntKind.i64.wrap (((l+1:Nat):Int)-1)=(l:Int):=by rw[Ai (by omega)];omega
    have q1:=An (en:=en) (d:=dk) (j:=l+1) (by omega);have q2:=An (en:=en) (d:=dk) (j:=l) (by omega);have q3:=An (en:=en) (d:=dk.setIfInBounds (l+1) dk[l]!) (j:=l) (by rw[Array.size_setIfInBounds];omega);rw[shiftDown]at hK;simp only[go_sem,Aa];refine Ag [.rd 0 false,.rd 1 false,.rd 2 false,.rd 3 false,.rd 4 true,.rd 5 false,.rd 6 false,.rd 7 false,.rd 8 false,.rd 9 true,.ef 10 [],.rd 11 false,.rd 12 false] ?_;simp only[go_sem,f0,f3,f11,w5,Ab,q1,q2,A8 hl];refine⟨by omega,by omega,by omega,by omega,(hC _ (Ak hn hs) _ _).p ?_⟩;simp only[go_sem];refine aIf_by (fun g5=>?_) (fun g5=>?_)
    ·rw[if_neg (by unfold ltc;rw[decide_eq_true g5];simp)]at hK
     simp only[go_sem];refine Ag [.rd 0 false,.rd 1 false,.rd 2 false,.rd 3 false,.rd 4 false,.rd 5 false,.rd 6 false,.rd 7 false,.rd 8 false,.rd 9 true,.rd 10 false,.rd 11 false,.rd 12 false,.rd 13 true,.rd 14 false,.ef 15 [],.rd 16 false,.ef 17 []] ?_;simp only[go_sem,f0,f3,f11,w5,Ab,q1,q2,A8 hl,Dt hl,hl,ho,hce,Dk,q3,Array.size_setIfInBounds,f1,f2,f9,f10];exact⟨by omega,by omega,by omega,by omega,by omega,by omega,by omega,by omega,l+1,by omega,l,swp dk (l+1) l,rfl,by omega,by rw[Bz];exact hdk,hK,rfl,rfl⟩
    ·rw[if_pos (by unfold ltc;rw[decide_eq_false g5];rfl)]at hK
     simp only[go_sem];exact⟨dk,hK,hdk,rfl,f0,f1,f2,f3,f9,f10⟩
   ·obtain rfl:k=0:=by omega
    simp only[go_sem];exact⟨dk,hK,hdk,rfl,f0,f1,f2,f3,f9,f10⟩
  ·rw[if_neg (by omega)]
   simp only[go_sem];exact⟨d1,rfl,hz1,rfl,f0,f1,f2,f3,f9,f10⟩
  clear f0 f1 f2 f3 f9 f10 fr;rintro fr σ' ⟨d2,hd2,hz2,rfl,f0,f1,f2,f3,f9,f10⟩;rw[←hd2]at hI;clear hd1 hd2 hz1 d1;simp only[go_sem,f2,f9,w4];have w6:IntKind.i64.wrap (((5:Int)-(t+1:Nat))+1)=(5:Int)-(t:Nat):=by rw[Ai (by omega)];omega
  refine aIf_by (fun g3=>?_) (fun g3=>?_)
  ·rw[if_pos (by omega)]at hI
   simp only[go_sem,Aa,f9,A2 j (by omega)];refine⟨fun m fr σ'=>∃(k:Nat) (dk:Array α),m=e-k∧j<k∧dk.size=n∧shiftUp (ltc cf) e k dk=shiftUp (ltc cf) e (j+1) d2∧σ'=σ.set b (.rows Jm (rw' en dk) false cap)∧fr 0=slv b n cap∧fr 1=int a∧fr 2=int e∧fr 3=fnv g∧fr 9=int j∧fr 10=int ((5:Int)-(t+1:Nat))∧fr 12=int k,⟨_,j+1,d2,rfl,by omega,hz2,rfl,rfl,f0,f1,f2,f3,f9,f10,rfl⟩,?_⟩;clear f0 f1 f2 f3 f9 f10 fr;rintro m fr σ' ⟨k,dk,rfl,hk,hdk,hK,rfl,f0,f1,f2,f3,f9,f10,f12⟩;rw[Aj3]at hK;simp only[go_sem,f12,f2];refine aIf_by (fun g4=>?_) (fun g4=>?_)
   ·have w5:IntKind.i64.wrap ((k:Int)-1)=((k-1:Nat):Int):=by rw[Ai (by omega)];omega
    have q1:=An (en:=en) (d:=dk) (j:=k) (by omega);have q2:=An (en:=en) (d:=dk) (j:=k-1) (by omega);have q3:=An (en:=en) (d:=dk.setIfInBounds k dk[k-1]!) (j:=k-1) (by rw[Array.size_setIfInBounds];omega);simp only[go_sem,Aa];refine Ag [.rd 0 false,.rd 1 false,.rd 2 false,.rd 3 false,.rd 4 true,.rd 5 false,.rd 6 false,.rd 7 false,.rd 8 false,.rd 9 true,.ef 10 [],.rd 11 false,.rd 12 false] ?_;simp only[go_sem,f0,f3,f12,w5,Ab,q1,q2,A8 hl];refine⟨by omega,by omega,by omega,by omega,(hC _ (Ak hn hs) _ _).p ?_⟩;simp only[go_sem];refine aIf_by (fun g5=>?_) (fun g5=>?_)
    ·rw[if_pos ⟨by omega,by unfold ltc;exact decide_eq_true g5⟩]at hK
     simp only[go_sem];refine Ag [.rd 0 false,.rd 1 false,.rd 2 false,.rd 3 false,.rd 4 false,.rd 5 false,.rd 6 false,.rd 7 false,.rd 8 false,.rd 9 true,.rd 10 false,.rd 11 false,.rd 12 false,.rd 13 true,.rd 14 false,.ef 15 [],.rd 16 false,.ef 17 []] ?_;simp only[go_sem,f0,f3,f12,w5,Ab,q1,q2,A8 hl,Dt hl,hl,ho,hce,Dk,q3,Array.size_setIfInBounds,f1,f2,f9,f10,A2 k (by omega)];exact⟨by omega,by omega,by omega,by omega,by omega,by omega,by omega,by omega,e-(k+1),by omega,k+1,swp dk k (k-1),rfl,by omega,by rw[Bz];exact hdk,hK,rfl,rfl⟩
    ·rw[if_neg (fun h=>g5 (of_decide_eq_true h.2))]at hK
     simp only[go_sem,f0,f1,f2,f3,f9,f10,w6];exact⟨t,by omega,t,j,dk,rfl,by omega,hj1,hj2,hdk,by rw[hK];exact hI,rfl,rfl,rfl⟩
   ·rw[if_neg (fun h=>g4 (by omega))]at hK
    simp only[go_sem,f0,f1,f2,f3,f9,f10,w6];exact⟨t,by omega,t,j,dk,rfl,by omega,hj1,hj2,hdk,by rw[hK];exact hI,rfl,rfl,rfl⟩
  ·rw[if_neg (by omega)]at hI
   simp only[go_sem,f0,f1,f2,f3,f9,f10,w6];exact⟨t,by omega,t,j,d2,rfl,by omega,hj1,hj2,hz2,hI,rfl,rfl,rfl⟩
 ·obtain rfl:m=0:=by omega
  simp only[go_sem];rw[←hI];exact Ac (r:=boo false) rfl ⟨rfl,rfl⟩):p:=h
namespace Go.Proofs.YtmifmncabejffaaGreat.F
open Go Go.Av Go.Sort
section
variable{α:Type}[Inhabited α]{en:α→List AV}(hl:∀x,(en x).length=4)(ho:∀x,(en x).all AV.one=true){cf:α→α→Int}{g:Nat}{β:St}(hC:∀σ',(∀x o,β x=some o→σ' x=some o)→∀x y,AT Tryz.prog g [.agg (en x),.agg (en y)] σ' fun r σ''=>r=int (cf x y)∧σ''=σ')
variable{σ:St}{b cap:Nat}{d:Array α}(hb:σ b=some (.rows 4 (rw' en d) false cap))(hn:β b=none)(hs:∀x o,β x=some o→σ x=some o){n:Nat}(hd:d.size=n)(hsz:n≤1000000000000)
theorem Aaj{lt:α→α→Bool}{d:Array α}{e i:Nat}:scanSorted lt d e i=if i<e∧lt d[i]! d[i-1]! =false then scanSorted lt d e (i+1)else i:=by
 rw[scanSorted];by_cases h:i<e<;>cases h2:lt d[i]! d[i-1]! <;>simp[h]
theorem Aj3{lt:α→α→Bool}{d:Array α}{e j:Nat}:shiftUp lt e j d=if j<e∧lt d[j]! d[j-1]! =true then shiftUp lt e (j+1) (swp d j (j-1))else d:=by
 rw[shiftUp];by_cases h:j<e<;>cases h2:lt d[j]! d[j-1]! <;>simp[h]
def pst(lt:α→α→Bool)(a e:Nat)(i:Nat)(d:Array α):Array α:=
 let d1:=swp d i (i-1)
 let d2:=if 2≤i-a then shiftDown lt (i-1) d1 else d1
 if 2≤e-i then shiftUp lt e (i+1) d2 else d2
theorem Aez{lt:α→α→Bool}{a e s i:Nat}{d:Array α}:partialIns lt a e (s+1) i d=if scanSorted lt d e i=e then(d,true)else if e-a<50 then(d,false)else partialIns lt a e s (scanSorted lt d e i) (pst lt a e (scanSorted lt d e i) d):=rfl
include hl ho hC hb hn hs hd hsz
abbrev Aka:=Tryz.func219
abbrev Jm:Nat:=4
theorem K4{a e:Nat}(he:e≤n)(ha:a<e):AT Tryz.prog 219 [slv b n cap,int a,int e,fnv g] σ fun r σ'=>r=boo (partialInsertionSort (ltc cf) d a e).2∧σ'=σ.set b (.rows 4 (rw' en (partialInsertionSort (ltc cf) d a e).1) false cap):=by
 have hce:=Nat.add_zero;have zh1:Jm=4:=rfl;exact rqq8
end
end Go.Proofs.YtmifmncabejffaaGreat.F
theorem Go.Proofs.YtmifmncabejffaaGreat.rqq9{p:Prop}(h:p:=by
 rw[partEqLoop];simp only[h1,h2];rw[if_neg h,dif_pos (by omega)]):p:=h
theorem Go.Proofs.YtmifmncabejffaaGreat.rqq10{p:Prop}(h:p:=by
 refine AT.ob Afq rfl ?_;have q1:=An (en:=en) (d:=d) (j:=a) (by omega);have q2:=An (en:=en) (d:=d) (j:=pv) (by omega);have q3:=An (en:=en) (d:=d.setIfInBounds a d[pv]!) (j:=pv) (by rw[Array.size_setIfInBounds];omega);have w1:IntKind.i64.wrap ((e:Int)-1)=((e-1:Nat):Int):=by rw[Ai (by omega)];omega
 simp only[go_sem];refine Ag [.rd 0 false,.rd 1 false,.rd 2 false,.rd 3 false,.rd 4 false,.rd 5 false,.rd 6 false,.rd 7 true,.rd 8 false,.rd 9 false,.rd 10 false,.rd 11 true,.rd 12 false,.ef 13 [],.rd 14 false,.ef 15 []] ?_;simp only[go_sem,Aa,hb,Ab,q1,q2,A8 hl,Dt hl,hl,ho,hce,Dk,q3,Array.size_setIfInBounds,w1,A2 a (by omega)];refine⟨by omega,by omega,by omega,by omega,by omega,by omega,by omega,by omega,?_⟩;clear q1 q2 q3;refine⟨fun m fr σ'=>∃(i j:Nat) (d':Array α),m=j+1-i∧a<i∧i≤e∧j<e∧i≤j+2∧d'.size=n∧partEqLoop (ltc cf) a i j d'=partitionEqual (ltc cf) d a e pv∧σ'=σ.set b (.rows Jl (rw' en d') false cap)∧fr 0=slv b n cap∧fr 1=int a∧fr 4=fnv g∧fr 11=int i∧fr 12=int j,⟨_,a+1,e-1,swp d a pv,rfl,by omega,by omega,by omega,by omega,by rw[Bz];exact hd,rfl,rfl,rfl,rfl,rfl,rfl,rfl⟩,?_⟩;rintro m fr σ' ⟨i,j,dd,rfl,hi1,hi2,hj1,hij,hdd,hI,rfl,f0,f1,f4,f11,f12⟩;simp only[go_sem];rw[Aa];simp only[go_sem];refine Io (fun fr σ'=>σ'=σ.set b (.rows Jl (rw' en dd) false cap)∧∃i2:Nat,i≤i2∧(i2≤i∨i2≤j+1)∧scanUp (fun x=>!ltc cf dd[a]! x) dd j i=i2∧fr 0=slv b n cap∧fr 1=int a∧fr 4=fnv g∧fr 11=int i2∧fr 12=int j) ?_ ?_
 ·simp only[go_sem,Aa]
  refine⟨fun m fr σ'=>∃i2:Nat,m=j+1-i2∧i≤i2∧(i2≤i∨i2≤j+1)∧scanUp (fun x=>!ltc cf dd[a]! x) dd j i2=scanUp (fun x=>!ltc cf dd[a]! x) dd j i∧σ'=σ.set b (.rows Jl (rw' en dd) false cap)∧fr 0=slv b n cap∧fr 1=int a∧fr 4=fnv g∧fr 11=int i2∧fr 12=int j,⟨_,i,rfl,by omega,by omega,rfl,rfl,f0,f1,f4,f11,f12⟩,?_⟩;clear f0 f1 f4 f11 f12 fr;rintro m fr σ' ⟨i2,rfl,h1,h2,hJ,rfl,f0,f1,f4,f11,f12⟩;rw[T8]at hJ;simp only[go_sem];refine Ag [.rd 0 false,.rd 1 false,.rd 2 false,.rd 3 false,.rd 4 false,.rd 5 false,.rd 6 false,.rd 7 false,.rd 8 true,.rd 9 false,.rd 10 false,.rd 11 false,.rd 12 true,.ef 13 [],.rd 14 false,.rd 15 false,.rd 16 false] ?_;by_cases g1:(i2:Int)≤j
  ·have q1:=An (en:=en) (d:=dd) (j:=i2) (by omega)
   have q2:=An (en:=en) (d:=dd) (j:=a) (by omega);simp only[go_sem,f0,f1,f4,f11,f12,decide_eq_true g1,Ab,q1,q2,A8 hl];refine⟨by omega,by omega,by omega,by omega,(hC _ (Ak hn hs) _ _).p ?_⟩;simp only[go_sem];refine aIf_by (fun g2=>?_) (fun g2=>?_)
   ·rw[if_neg (by unfold ltc;rw[decide_eq_true g2];simp)]at hJ
    simp only[go_sem];exact⟨i2,h1,h2,hJ.symm,f0,f1,f4,f11,f12⟩
   ·rw[if_pos ⟨by omega,by unfold ltc;rw[decide_eq_false g2];rfl⟩]at hJ
    simp only[go_sem,Aa,f0,f1,f4,f11,f12,A2 i2 (by omega)];exact⟨j+1-(i2+1),by omega,i2+1,rfl,by omega,by omega,hJ,rfl⟩
  ·rw[if_neg (by omega)]at hJ
   simp only[go_sem,f11,f12,decide_eq_false g1];exact⟨i2,h1,h2,hJ.symm,f0,f1,f4,rfl⟩
 clear f0 f1 f4 f11 f12 fr;rintro fr σ' ⟨rfl,i2,h1,h2,hi3,f0,f1,f4,f11,f12⟩;simp only[go_sem];refine Io (fun fr σ'=>σ'=σ.set b (.rows Jl (rw' en dd) false cap)∧∃j2:Nat,j2≤j∧scanDown (fun x=>ltc cf dd[a]! x) dd i2 j=j2∧(i2≤j→i2≤j2+1)∧(j<i2→j2=j)∧fr 0=slv b n cap∧fr 1=int a∧fr 4=fnv g∧fr 11=int i2∧fr 12=int j2) ?_ ?_
 ·simp only[go_sem,Aa]
  refine⟨fun m fr σ'=>∃j2:Nat,m=j2∧j2≤j∧scanDown (fun x=>ltc cf dd[a]! x) dd i2 j2=scanDown (fun x=>ltc cf dd[a]! x) dd i2 j∧(i2≤j→i2≤j2+1)∧(j<i2→j2=j)∧σ'=σ.set b (.rows Jl (rw' en dd) false cap)∧fr 0=slv b n cap∧fr 1=int a∧fr 4=fnv g∧fr 11=int i2∧fr 12=int j2,⟨_,j,rfl,by omega,rfl,by omega,by omega,rfl,f0,f1,f4,f11,f12⟩,?_⟩;clear f0 f1 f4 f11 f12 fr;rintro m fr σ' ⟨j2,hm,k1,hJ,k2,k3,rfl,f0,f1,f4,f11,f12⟩;subst hm;rw[Tz (by omega)]at hJ;simp only[go_sem];refine Ag [.rd 0 false,.rd 1 false,.rd 2 false,.rd 3 false,.rd 4 false,.rd 5 false,.rd 6 false,.rd 7 false,.rd 8 true,.rd 9 false,.rd 10 false,.rd 11 false,.rd 12 true,.ef 13 [],.rd 14 false,.rd 15 false] ?_;by_cases g1:(i2:Int)≤m
  ·have q1:=An (en:=en) (d:=dd) (j:=m) (by omega)
   have q2:=An (en:=en) (d:=dd) (j:=a) (by omega);have w2:IntKind.i64.wrap ((m:Int)-1)=((m-1:Nat):Int):=by rw[Ai (by omega)];omega
   simp only[go_sem,f0,f1,f4,f11,f12,decide_eq_true g1,Ab,q1,q2,A8 hl];refine⟨by omega,by omega,by omega,by omega,(hC _ (Ak hn hs) _ _).p ?_⟩;simp only[go_sem];refine aIf_by (fun g2=>?_) (fun g2=>?_)
   ·rw[if_pos ⟨by omega,by unfold ltc;exact decide_eq_true g2⟩]at hJ
    simp only[go_sem,Aa,f0,f1,f4,f11,f12,w2];exact⟨m-1,by omega,m-1,rfl,by omega,hJ,by omega,by omega,rfl⟩
   ·rw[if_neg (fun h=>g2 (of_decide_eq_true h.2))]at hJ
    simp only[go_sem];exact⟨m,k1,hJ.symm,k2,k3,f0,f1,f4,f11,f12⟩
  ·rw[if_neg (fun h=>g1 (by omega))]at hJ
   simp only[go_sem,f11,f12,decide_eq_false g1];exact⟨m,k1,hJ.symm,k2,k3,f0,f1,f4,rfl⟩
 clear f0 f1 f4 f11 f12 fr;rintro fr σ' ⟨rfl,j2,k1,hj3,k2,k3,f0,f1,f4,f11,f12⟩;simp only[go_sem,f11,f12];refine aIf_by (fun g1=>?_) (fun g1=>?_)
 ·rw[Wa hi3 hj3 (by omega)]at hI
  simp only[go_sem,f11];rw[←hI];exact Ac (r:=int i2) rfl ⟨rfl,rfl⟩
 ·rw[Aey hi3 hj3 (by omega) h1 k1]at hI
  have w2:IntKind.i64.wrap ((j2:Int)-1)=((j2-1:Nat):Int):=by rw[Ai (by omega)];omega
  have q1:=An (en:=en) (d:=dd) (j:=i2) (by omega);have q2:=An (en:=en) (d:=dd) (j:=j2) (by omega);have q3:=An (en:=en) (d:=dd.setIfInBounds i2 dd[j2]!) (j:=j2) (by rw[Array.size_setIfInBounds];omega);simp only[go_sem];refine Ag [.rd 0 false,.rd 1 false,.rd 2 false,.rd 3 false,.rd 4 false,.rd 5 false,.rd 6 false,.rd 7 true,.rd 8 false,.rd 9 false,.rd 10 false,.rd 11 true,.rd 12 false,.ef 13 [],.rd 14 false,.ef 15 []] ?_;simp only[go_sem,f0,f1,f4,f11,f12,Ab,q1,q2,A8 hl,Dt hl,hl,ho,hce,Dk,q3,Array.size_setIfInBounds,w2,A2 i2 (by omega)];exact⟨by omega,by omega,by omega,by omega,by omega,by omega,by omega,by omega,j2-1+1-(i2+1),by omega,i2+1,j2-1,swp dd i2 j2,rfl,by omega,by omega,by omega,by omega,by rw[Bz];exact hdd,hI,rfl,rfl,rfl⟩):p:=h
namespace Go.Proofs.YtmifmncabejffaaGreat.F
open Go Go.Av Go.Sort
section
variable{α:Type}[Inhabited α]{en:α→List AV}(hl:∀x,(en x).length=4)(ho:∀x,(en x).all AV.one=true){cf:α→α→Int}{g:Nat}{β:St}(hC:∀σ',(∀x o,β x=some o→σ' x=some o)→∀x y,AT Tryz.prog g [.agg (en x),.agg (en y)] σ' fun r σ''=>r=int (cf x y)∧σ''=σ')
variable{σ:St}{b cap:Nat}{d:Array α}(hb:σ b=some (.rows 4 (rw' en d) false cap))(hn:β b=none)(hs:∀x o,β x=some o→σ x=some o){n:Nat}(hd:d.size=n)(hsz:n≤1000000000000)
theorem T8{p:α→Bool}{d:Array α}{j i:Nat}:scanUp p d j i=if i≤j∧p d[i]! =true then scanUp p d j (i+1)else i:=by
 rw[scanUp];by_cases h:i≤j<;>cases h2:p d[i]! <;>simp[h]
theorem Tz{p:α→Bool}{d:Array α}{i j:Nat}(hi:1≤i):scanDown p d i j=if i≤j∧p d[j]! =true then scanDown p d i (j-1)else j:=by
 cases j with
 |zero=>rw[scanDown,if_neg (fun h=>by omega)]
 |succ k=>
  rw[scanDown];by_cases h:i≤k+1<;>cases h2:p d[k+1]! <;>simp[h]
theorem Wa{lt:α→α→Bool}{a i j i2 j2:Nat}{d:Array α}(h1:scanUp (fun x=>!lt d[a]! x) d j i=i2)(h2:scanDown (fun x=>lt d[a]! x) d i2 j=j2)(h:j2<i2):partEqLoop lt a i j d=(i2,d):=by
 rw[partEqLoop];simp only[h1,h2];rw[if_pos h]
theorem Aey{lt:α→α→Bool}{a i j i2 j2:Nat}{d:Array α}(h1:scanUp (fun x=>!lt d[a]! x) d j i=i2)(h2:scanDown (fun x=>lt d[a]! x) d i2 j=j2)(h:¬j2<i2)(hi:i≤i2)(hj:j2≤j):partEqLoop lt a i j d=partEqLoop lt a (i2+1) (j2-1) (swp d i2 j2):=by
 exact rqq9
include hl ho hC hb hn hs hd hsz
abbrev Afq:=Tryz.func220
abbrev Jl:Nat:=4
theorem Nc{a e pv:Nat}(he:e≤n)(ha:a+2≤e)(hp:pv<n):AT Tryz.prog 220 [slv b n cap,int a,int e,int pv,fnv g] σ fun r σ'=>r=int (partitionEqual (ltc cf) d a e pv).1∧σ'=σ.set b (.rows 4 (rw' en (partitionEqual (ltc cf) d a e pv).2) false cap):=by
 have hce:=Nat.add_zero;have zh1:Jl=4:=rfl;exact rqq10
end
end Go.Proofs.YtmifmncabejffaaGreat.F
theorem Go.Proofs.YtmifmncabejffaaGreat.rqq11{p:Prop}(h:p:=by
 rw[partLoop];simp only[h1,h2];rw[if_neg h,dif_pos (by omega)]):p:=h
theorem Go.Proofs.YtmifmncabejffaaGreat.rqq12{p:Prop}(h:p:=by
 unfold partition;simp only[←h0,h1,h2];rw[if_neg h]):p:=h
theorem Go.Proofs.YtmifmncabejffaaGreat.rqq13{p:Prop}(h:p:=by
 refine AT.ob Afr rfl ?_;have q1:=An (en:=en) (d:=d) (j:=a) (by omega);have q2:=An (en:=en) (d:=d) (j:=pv) (by omega);have q3:=An (en:=en) (d:=d.setIfInBounds a d[pv]!) (j:=pv) (by rw[Array.size_setIfInBounds];omega);have w1:IntKind.i64.wrap ((e:Int)-1)=((e-1:Nat):Int):=by rw[Ai (by omega)];omega
 simp only[go_sem];refine Ag [.rd 0 false,.rd 1 false,.rd 2 false,.rd 3 false,.rd 4 false,.rd 5 false,.rd 6 false,.rd 7 true,.rd 8 false,.rd 9 false,.rd 10 false,.rd 11 true,.rd 12 false,.ef 13 [],.rd 14 false,.ef 15 []] ?_;simp only[go_sem,hb,Ab,q1,q2,A8 hl,Dt hl,hl,ho,hce,Dk,q3,Array.size_setIfInBounds,w1,A2 a (by omega)];refine⟨by omega,by omega,by omega,by omega,by omega,by omega,by omega,by omega,?_⟩;clear q1 q2 q3;obtain⟨d0,hd0⟩:∃d0,d0=swp d a pv:=⟨_,rfl⟩;have hz0:d0.size=n:=by rw[hd0,Bz];exact hd
 have e1:Bn.rows Dv (rw' en ((d.setIfInBounds a d[pv]!).setIfInBounds pv d[a]!)) false cap=Bn.rows Dv (rw' en d0) false cap:=by rw[hd0];rfl
 rw[e1];clear e1;apply H8 (fun fr σ'=>σ'=σ.set b (.rows Dv (rw' en d0) false cap)∧fr 0=slv b n cap∧fr 1=int a∧fr 4=fnv g∧fr 12=int (a+1:Nat)∧fr 13=int (e-1:Nat))
 case h1=>exact fun key=>key _ _ ⟨rfl,rfl,rfl,rfl,rfl,rfl⟩
 rintro fr σ' ⟨rfl,f0,f1,f4,f12,f13⟩;obtain⟨i0,hi0⟩:∃i0,i0=a+1:=⟨_,rfl⟩;obtain⟨j0,hj0⟩:∃j0,j0=e-1:=⟨_,rfl⟩;rw[←hi0]at f12;rw[←hj0]at f13;refine Io (fun fr σ'=>σ'=σ.set b (.rows Dv (rw' en d0) false cap)∧∃i2:Nat,i0≤i2∧(i2≤i0∨i2≤j0+1)∧scanUp (fun x=>ltc cf x d0[a]!) d0 j0 i0=i2∧fr 0=slv b n cap∧fr 1=int a∧fr 4=fnv g∧fr 12=int i2∧fr 13=int j0) ?_ ?_
 ·simp only[go_sem,Aa]
  refine⟨fun m fr σ'=>∃i2:Nat,m=j0+1-i2∧i0≤i2∧(i2≤i0∨i2≤j0+1)∧scanUp (fun x=>ltc cf x d0[a]!) d0 j0 i2=scanUp (fun x=>ltc cf x d0[a]!) d0 j0 i0∧σ'=σ.set b (.rows Dv (rw' en d0) false cap)∧fr 0=slv b n cap∧fr 1=int a∧fr 4=fnv g∧fr 12=int i2∧fr 13=int j0,⟨_,i0,rfl,by omega,by omega,rfl,rfl,f0,f1,f4,f12,f13⟩,?_⟩;clear f0 f1 f4 f12 f13;rintro m fr σ' ⟨i2,rfl,h1,h2,hJ,rfl,f0,f1,f4,f12,f13⟩;rw[T8]at hJ;simp only[go_sem];refine Ag [.rd 0 false,.rd 1 false,.rd 2 false,.rd 3 false,.rd 4 false,.rd 5 false,.rd 6 false,.rd 7 false,.rd 8 true,.rd 9 false,.rd 10 false,.rd 11 false,.rd 12 true,.ef 13 [],.rd 14 false,.rd 15 false] ?_;by_cases g1:(i2:Int)≤(j0:Nat)
  ·have q1:=An (en:=en) (d:=d0) (j:=i2) (by omega)
   have q2:=An (en:=en) (d:=d0) (j:=a) (by omega);simp only[go_sem,f0,f1,f4,f12,f13,decide_eq_true g1,Ab,q1,q2,A8 hl];refine⟨by omega,by omega,by omega,by omega,(hC _ (Ak hn hs) _ _).p ?_⟩;simp only[go_sem];refine aIf_by (fun g2=>?_) (fun g2=>?_)
   ·rw[if_pos ⟨by omega,by unfold ltc;exact decide_eq_true g2⟩]at hJ
    simp only[go_sem,Aa,f0,f1,f4,f12,f13,A2 i2 (by omega)];exact⟨j0+1-(i2+1),by omega,i2+1,rfl,by omega,by omega,hJ,rfl⟩
   ·rw[if_neg (fun h=>g2 (of_decide_eq_true h.2))]at hJ
    simp only[go_sem];exact⟨i2,h1,h2,hJ.symm,f0,f1,f4,f12,f13⟩
  ·rw[if_neg (fun h=>g1 (by omega))]at hJ
   simp only[go_sem,f12,f13,decide_eq_false g1];exact⟨i2,h1,h2,hJ.symm,f0,f1,f4,rfl⟩
 clear f0 f1 f4 f12 f13;rintro fr σ' ⟨rfl,i2,h1,h2,hi3,f0,f1,f4,f12,f13⟩;simp only[go_sem];refine Io (fun fr σ'=>σ'=σ.set b (.rows Dv (rw' en d0) false cap)∧∃j2:Nat,j2≤j0∧scanDown (fun x=>!ltc cf x d0[a]!) d0 i2 j0=j2∧(i2≤j0→i2≤j2+1)∧(j0<i2→j2=j0)∧fr 0=slv b n cap∧fr 1=int a∧fr 4=fnv g∧fr 12=int i2∧fr 13=int j2) ?_ ?_
 ·simp only[go_sem,Aa]
  refine⟨fun m fr σ'=>∃j2:Nat,m=j2∧j2≤j0∧scanDown (fun x=>!ltc cf x d0[a]!) d0 i2 j2=scanDown (fun x=>!ltc cf x d0[a]!) d0 i2 j0∧(i2≤j0→i2≤j2+1)∧(j0<i2→j2=j0)∧σ'=σ.set b (.rows Dv (rw' en d0) false cap)∧fr 0=slv b n cap∧fr 1=int a∧fr 4=fnv g∧fr 12=int i2∧fr 13=int j2,⟨_,j0,rfl,by omega,rfl,by omega,by omega,rfl,f0,f1,f4,f12,f13⟩,?_⟩;clear f0 f1 f4 f12 f13;rintro m fr σ' ⟨j2,hm,k1,hJ,k2,k3,rfl,f0,f1,f4,f12,f13⟩;subst hm;rw[Tz (by omega)]at hJ;simp only[go_sem];refine Ag [.rd 0 false,.rd 1 false,.rd 2 false,.rd 3 false,.rd 4 false,.rd 5 false,.rd 6 false,.rd 7 false,.rd 8 true,.rd 9 false,.rd 10 false,.rd 11 false,.rd 12 true,.ef 13 [],.rd 14 false,.rd 15 false,.rd 16 false] ?_;by_cases g1:(i2:Int)≤m
  ·have q1:=An (en:=en) (d:=d0) (j:=m) (by omega)
   have q2:=An (en:=en) (d:=d0) (j:=a) (by omega);have w2:IntKind.i64.wrap ((m:Int)-1)=((m-1:Nat):Int):=by rw[Ai (by omega)];omega
   simp only[go_sem,f0,f1,f4,f12,f13,decide_eq_true g1,Ab,q1,q2,A8 hl];refine⟨by omega,by omega,by omega,by omega,(hC _ (Ak hn hs) _ _).p ?_⟩;simp only[go_sem];refine aIf_by (fun g2=>?_) (fun g2=>?_)
   ·rw[if_neg (by unfold ltc;rw[decide_eq_true g2];simp)]at hJ
    simp only[go_sem];exact⟨m,k1,hJ.symm,k2,k3,f0,f1,f4,f12,f13⟩
   ·rw[if_pos ⟨by omega,by unfold ltc;rw[decide_eq_false g2];rfl⟩]at hJ
    simp only[go_sem,Aa,f0,f1,f4,f12,f13,w2];exact⟨m-1,by omega,m-1,rfl,by omega,hJ,by omega,by omega,rfl⟩
  ·rw[if_neg (fun h=>g1 (by omega))]at hJ
   simp only[go_sem,f12,f13,decide_eq_false g1];exact⟨m,k1,hJ.symm,k2,k3,f0,f1,f4,rfl⟩
 clear f0 f1 f4 f12 f13;rintro fr σ' ⟨rfl,j2,k1,hj3,k2,k3,f0,f1,f4,f12,f13⟩;rw[hi0,hj0]at hi3;rw[hj0]at hj3;simp only[go_sem,f12,f13];have q1:=An (en:=en) (d:=d0) (j:=a) (by omega);refine aIf_by (fun g1=>?_) (fun g1=>?_)
 ·rw[Aae hd0 hi3 hj3 (by omega)]
  have q2:=An (en:=en) (d:=d0) (j:=j2) (by omega);have q3:=An (en:=en) (d:=d0.setIfInBounds j2 d0[a]!) (j:=a) (by rw[Array.size_setIfInBounds];omega);simp only[go_sem];refine Ag [.rd 0 false,.rd 1 false,.rd 2 false,.rd 3 false,.rd 4 false,.rd 5 false,.rd 6 false,.rd 7 true,.rd 8 false,.rd 9 false,.rd 10 false,.rd 11 true,.rd 12 false,.ef 13 [],.rd 14 false,.ef 15 []] ?_;simp only[go_sem,f0,f1,f4,f12,f13,Ab,q1,q2,A8 hl,Dt hl,hl,ho,hce,Dk,q3,Array.size_setIfInBounds];refine⟨by omega,by omega,by omega,by omega,by omega,by omega,by omega,by omega,?_⟩;exact Ac (r:=.tup [int j2,boo true]) rfl ⟨rfl,rfl⟩
 ·rw[Ajq hd0 hi3 hj3 (by omega)]
  have w2:IntKind.i64.wrap ((j2:Int)-1)=((j2-1:Nat):Int):=by rw[Ai (by omega)];omega
  have q1:=An (en:=en) (d:=d0) (j:=i2) (by omega);have q2:=An (en:=en) (d:=d0) (j:=j2) (by omega);have q3:=An (en:=en) (d:=d0.setIfInBounds i2 d0[j2]!) (j:=j2) (by rw[Array.size_setIfInBounds];omega);simp only[go_sem];refine Ag [.rd 0 false,.rd 1 false,.rd 2 false,.rd 3 false,.rd 4 false,.rd 5 false,.rd 6 false,.rd 7 true,.rd 8 false,.rd 9 false,.rd 10 false,.rd 11 true,.rd 12 false,.ef 13 [],.rd 14 false,.ef 15 []] ?_;simp only[go_sem,Aa,f0,f1,f4,f12,f13,Ab,q1,q2,A8 hl,Dt hl,hl,ho,hce,Dk,q3,Array.size_setIfInBounds,w2,A2 i2 (by omega)];refine⟨by omega,by omega,by omega,by omega,by omega,by omega,by omega,by omega,?_⟩;clear q1 q2 q3;obtain⟨R,hR⟩:∃R,R=partLoop (ltc cf) a (i2+1) (j2-1) (swp d0 i2 j2):=⟨_,rfl⟩;rw[←hR];refine⟨fun m fr σ'=>∃(i j:Nat) (d':Array α),m=j+1-i∧a<i∧i≤e∧j<e∧i≤j+2∧d'.size=n∧partLoop (ltc cf) a i j d'=R∧σ'=σ.set b (.rows Dv (rw' en d') false cap)∧fr 0=slv b n cap∧fr 1=int a∧fr 4=fnv g∧fr 12=int i∧fr 13=int j,⟨_,i2+1,j2-1,swp d0 i2 j2,rfl,by omega,by omega,by omega,by omega,by rw[Bz];exact hz0,hR.symm,rfl,f0,f1,f4,rfl,rfl⟩,?_⟩;clear f0 f1 f4 f12 f13 hi3 hj3 k2 k3 h1 h2 k1 w2 g1 i2 j2 hR;rintro m fr σ' ⟨i,j,dd,rfl,hi1,hi2,hj1,hij,hdd,hI,rfl,f0,f1,f4,f12,f13⟩;simp only[go_sem];rw[Aa];simp only[go_sem];refine Io (fun fr σ'=>σ'=σ.set b (.rows Dv (rw' en dd) false cap)∧∃i2:Nat,i≤i2∧(i2≤i∨i2≤j+1)∧scanUp (fun x=>ltc cf x dd[a]!) dd j i=i2∧fr 0=slv b n cap∧fr 1=int a∧fr 4=fnv g∧fr 12=int i2∧fr 13=int j) ?_ ?_
  ·simp only[go_sem,Aa]
   refine⟨fun m fr σ'=>∃i2:Nat,m=j+1-i2∧i≤i2∧(i2≤i∨i2≤j+1)∧scanUp (fun x=>ltc cf x dd[a]!) dd j i2=scanUp (fun x=>ltc cf x dd[a]!) dd j i∧σ'=σ.set b (.rows Dv (rw' en dd) false cap)∧fr 0=slv b n cap∧fr 1=int a∧fr 4=fnv g∧fr 12=int i2∧fr 13=int j,⟨_,i,rfl,by omega,by omega,rfl,rfl,f0,f1,f4,f12,f13⟩,?_⟩;clear f0 f1 f4 f12 f13;rintro m fr σ' ⟨i2,rfl,h1,h2,hJ,rfl,f0,f1,f4,f12,f13⟩;rw[T8]at hJ;simp only[go_sem];refine Ag [.rd 0 false,.rd 1 false,.rd 2 false,.rd 3 false,.rd 4 false,.rd 5 false,.rd 6 false,.rd 7 false,.rd 8 true,.rd 9 false,.rd 10 false,.rd 11 false,.rd 12 true,.ef 13 [],.rd 14 false,.rd 15 false] ?_;by_cases g1:(i2:Int)≤(j:Nat)
   ·have q1:=An (en:=en) (d:=dd) (j:=i2) (by omega)
    have q2:=An (en:=en) (d:=dd) (j:=a) (by omega);simp only[go_sem,f0,f1,f4,f12,f13,decide_eq_true g1,Ab,q1,q2,A8 hl];refine⟨by omega,by omega,by omega,by omega,(hC _ (Ak hn hs) _ _).p ?_⟩;simp only[go_sem];refine aIf_by (fun g2=>?_) (fun g2=>?_)
    ·rw[if_pos ⟨by omega,by unfold ltc;exact decide_eq_true g2⟩]at hJ
     simp only[go_sem,Aa,f0,f1,f4,f12,f13,A2 i2 (by omega)];exact⟨j+1-(i2+1),by omega,i2+1,rfl,by omega,by omega,hJ,rfl⟩
    ·rw[if_neg (fun h=>g2 (of_decide_eq_true h.2))]at hJ
     simp only[go_sem];exact⟨i2,h1,h2,hJ.symm,f0,f1,f4,f12,f13⟩
   ·rw[if_neg (fun h=>g1 (by omega))]at hJ
    simp only[go_sem,f12,f13,decide_eq_false g1];exact⟨i2,h1,h2,hJ.symm,f0,f1,f4,rfl⟩
  clear f0 f1 f4 f12 f13;rintro fr σ' ⟨rfl,i2,h1,h2,hi3,f0,f1,f4,f12,f13⟩;simp only[go_sem];refine Io (fun fr σ'=>σ'=σ.set b (.rows Dv (rw' en dd) false cap)∧∃j2:Nat,j2≤j∧scanDown (fun x=>!ltc cf x dd[a]!) dd i2 j=j2∧(i2≤j→i2≤j2+1)∧(j<i2→j2=j)∧fr 0=slv b n cap∧fr 1=int a∧fr 4=fnv g∧fr 12=int i2∧fr 13=int j2) ?_ ?_
  ·simp only[go_sem,Aa]
   refine⟨fun m fr σ'=>∃j2:Nat,m=j2∧j2≤j∧scanDown (fun x=>!ltc cf x dd[a]!) dd i2 j2=scanDown (fun x=>!ltc cf x dd[a]!) dd i2 j∧(i2≤j→i2≤j2+1)∧(j<i2→j2=j)∧σ'=σ.set b (.rows Dv (rw' en dd) false cap)∧fr 0=slv b n cap∧fr 1=int a∧fr 4=fnv g∧fr 12=int i2∧fr 13=int j2,⟨_,j,rfl,by omega,rfl,by omega,by omega,rfl,f0,f1,f4,f12,f13⟩,?_⟩;clear f0 f1 f4 f12 f13;rintro m fr σ' ⟨j2,hm,k1,hJ,k2,k3,rfl,f0,f1,f4,f12,f13⟩;subst hm;rw[Tz (by omega)]at hJ;simp only[go_sem];refine Ag [.rd 0 false,.rd 1 false,.rd 2 false,.rd 3 false,.rd 4 false,.rd 5 false,.rd 6 false,.rd 7 false,.rd 8 true,.rd 9 false,.rd 10 false,.rd 11 false,.rd 12 true,.ef 13 [],.rd 14 false,.rd 15 false,.rd 16 false] ?_;by_cases g1:(i2:Int)≤m
   ·have q1:=An (en:=en) (d:=dd) (j:=m) (by omega)
    have q2:=An (en:=en) (d:=dd) (j:=a) (by omega);have w2:IntKind.i64.wrap ((m:Int)-1)=((m-1:Nat):Int):=by rw[Ai (by omega)];omega
    simp only[go_sem,f0,f1,f4,f12,f13,decide_eq_true g1,Ab,q1,q2,A8 hl];refine⟨by omega,by omega,by omega,by omega,(hC _ (Ak hn hs) _ _).p ?_⟩;simp only[go_sem];refine aIf_by (fun g2=>?_) (fun g2=>?_)
    ·rw[if_neg (by unfold ltc;rw[decide_eq_true g2];simp)]at hJ
     simp only[go_sem];exact⟨m,k1,hJ.symm,k2,k3,f0,f1,f4,f12,f13⟩
    ·rw[if_pos ⟨by omega,by unfold ltc;rw[decide_eq_false g2];rfl⟩]at hJ
     simp only[go_sem,Aa,f0,f1,f4,f12,f13,w2];exact⟨m-1,by omega,m-1,rfl,by omega,hJ,by omega,by omega,rfl⟩
   ·rw[if_neg (fun h=>g1 (by omega))]at hJ
    simp only[go_sem,f12,f13,decide_eq_false g1];exact⟨m,k1,hJ.symm,k2,k3,f0,f1,f4,rfl⟩
  clear f0 f1 f4 f12 f13;rintro fr σ' ⟨rfl,j2,k1,hj3,k2,k3,f0,f1,f4,f12,f13⟩;simp only[go_sem,f12,f13];refine aIf_by (fun g1=>?_) (fun g1=>?_)
  ·rw[Aac hi3 hj3 (by omega)]at hI
   rw[←hI];have q1:=An (en:=en) (d:=dd) (j:=a) (by omega);have q2:=An (en:=en) (d:=dd) (j:=j2) (by omega);have q3:=An (en:=en) (d:=dd.setIfInBounds j2 dd[a]!) (j:=a) (by rw[Array.size_setIfInBounds];omega);simp only[go_sem];refine Ag [.rd 0 false,.rd 1 false,.rd 2 false,.rd 3 false,.rd 4 false,.rd 5 false,.rd 6 false,.rd 7 true,.rd 8 false,.rd 9 false,.rd 10 false,.rd 11 true,.rd 12 false,.ef 13 [],.rd 14 false,.ef 15 []] ?_;simp only[go_sem,f0,f1,f4,f12,f13,Ab,q1,q2,A8 hl,Dt hl,hl,ho,hce,Dk,q3,Array.size_setIfInBounds];refine⟨by omega,by omega,by omega,by omega,by omega,by omega,by omega,by omega,?_⟩;exact Ac (r:=.tup [int j2,boo false]) rfl ⟨rfl,rfl⟩
  ·rw[Ajp hi3 hj3 (by omega) h1 k1]at hI
   have w2:IntKind.i64.wrap ((j2:Int)-1)=((j2-1:Nat):Int):=by rw[Ai (by omega)];omega
   have q1:=An (en:=en) (d:=dd) (j:=i2) (by omega);have q2:=An (en:=en) (d:=dd) (j:=j2) (by omega);have q3:=An (en:=en) (d:=dd.setIfInBounds i2 dd[j2]!) (j:=j2) (by rw[Array.size_setIfInBounds];omega);simp only[go_sem];refine Ag [.rd 0 false,.rd 1 false,.rd 2 false,.rd 3 false,.rd 4 false,.rd 5 false,.rd 6 false,.rd 7 true,.rd 8 false,.rd 9 false,.rd 10 false,.rd 11 true,.rd 12 false,.ef 13 [],.rd 14 false,.ef 15 []] ?_;simp only[go_sem,f0,f1,f4,f12,f13,Ab,q1,q2,A8 hl,Dt hl,hl,ho,hce,Dk,q3,Array.size_setIfInBounds,w2,A2 i2 (by omega)];exact⟨by omega,by omega,by omega,by omega,by omega,by omega,by omega,by omega,j2-1+1-(i2+1),by omega,i2+1,j2-1,swp dd i2 j2,rfl,by omega,by omega,by omega,by omega,by rw[Bz];exact hdd,hI,rfl,rfl,rfl⟩):p:=h
namespace Go.Proofs.YtmifmncabejffaaGreat.F
open Go Go.Av Go.Sort
section
variable{α:Type}[Inhabited α]{en:α→List AV}(hl:∀x,(en x).length=4)(ho:∀x,(en x).all AV.one=true){cf:α→α→Int}{g:Nat}{β:St}(hC:∀σ',(∀x o,β x=some o→σ' x=some o)→∀x y,AT Tryz.prog g [.agg (en x),.agg (en y)] σ' fun r σ''=>r=int (cf x y)∧σ''=σ')
variable{σ:St}{b cap:Nat}{d:Array α}(hb:σ b=some (.rows 4 (rw' en d) false cap))(hn:β b=none)(hs:∀x o,β x=some o→σ x=some o){n:Nat}(hd:d.size=n)(hsz:n≤1000000000000)
theorem Aac{lt:α→α→Bool}{a i j i2 j2:Nat}{d:Array α}(h1:scanUp (fun x=>lt x d[a]!) d j i=i2)(h2:scanDown (fun x=>!lt x d[a]!) d i2 j=j2)(h:j2<i2):partLoop lt a i j d=(j2,d):=by
 rw[partLoop];simp only[h1,h2];rw[if_pos h]
theorem Ajp{lt:α→α→Bool}{a i j i2 j2:Nat}{d:Array α}(h1:scanUp (fun x=>lt x d[a]!) d j i=i2)(h2:scanDown (fun x=>!lt x d[a]!) d i2 j=j2)(h:¬j2<i2)(hi:i≤i2)(hj:j2≤j):partLoop lt a i j d=partLoop lt a (i2+1) (j2-1) (swp d i2 j2):=by
 exact rqq11
theorem Aae{lt:α→α→Bool}{a e pv i2 j2:Nat}{d d0:Array α}(h0:d0=swp d a pv)(h1:scanUp (fun x=>lt x d0[a]!) d0 (e-1) (a+1)=i2)(h2:scanDown (fun x=>!lt x d0[a]!) d0 i2 (e-1)=j2)(h:j2<i2):partition lt d a e pv=(j2,true,swp d0 j2 a):=by
 unfold partition;simp only[←h0,h1,h2];rw[if_pos h]
theorem Ajq{lt:α→α→Bool}{a e pv i2 j2:Nat}{d d0:Array α}(h0:d0=swp d a pv)(h1:scanUp (fun x=>lt x d0[a]!) d0 (e-1) (a+1)=i2)(h2:scanDown (fun x=>!lt x d0[a]!) d0 i2 (e-1)=j2)(h:¬j2<i2):partition lt d a e pv=((partLoop lt a (i2+1) (j2-1) (swp d0 i2 j2)).1,false,swp (partLoop lt a (i2+1) (j2-1) (swp d0 i2 j2)).2 (partLoop lt a (i2+1) (j2-1) (swp d0 i2 j2)).1 a):=by
 exact rqq12
include hl ho hC hb hn hs hd hsz
abbrev Afr:=Tryz.func221
abbrev Dv:Nat:=4
theorem Mb{a e pv:Nat}(he:e≤n)(ha:a+2≤e)(hp:pv<n):AT Tryz.prog 221 [slv b n cap,int a,int e,int pv,fnv g] σ fun r σ'=>r= .tup [int (partition (ltc cf) d a e pv).1,boo (partition (ltc cf) d a e pv).2.1]∧σ'=σ.set b (.rows 4 (rw' en (partition (ltc cf) d a e pv).2.2) false cap):=by
 have hce:=Nat.add_zero;have zh1:Dv=4:=rfl;exact rqq13
end
section
variable{α:Type}[Inhabited α]{en:α→List AV}(hl:∀x,(en x).length=4)(ho:∀x,(en x).all AV.one=true){cf:α→α→Int}{g:Nat}{β:St}(hC:∀σ',(∀x o,β x=some o→σ' x=some o)→∀x y,AT Tryz.prog g [.agg (en x),.agg (en y)] σ' fun r σ''=>r=int (cf x y)∧σ''=σ')
variable{b cap:Nat}(hn:β b=none){n:Nat}(hsz:n≤1000000000000)(hS:SWO (ltc cf))
include hl ho hC hn hsz hS
theorem X7:∀(w:Nat) {σ:St} {d:Array α} {a e limit:Nat},e-a≤w→σ b=some (.rows 4 (rw' en d) false cap)→(∀x o,β x=some o→σ x=some o)→d.size=n→a≤e→e≤n→limit≤1000→Below (ltc cf) a e d→
  AT Tryz.prog 171 [slv b n cap,int a,int e,int limit,fnv g] σ fun _ σ'=>∃d',σ'=σ.set b (.rows 4 (rw' en d') false cap)∧PermIn a e d d'∧SortedIn (ltc cf) a e d':=by
 intro w
 induction w using Nat.strongRecOn with
 |ind w ih=>
 intro σ d a e limit hw hb hs hd hae he hlim hB;refine AT.ob Tryz.func171 rfl ?_;simp only[go_sem,Aa];refine⟨fun m fr σ'=>∃(p q lim:Nat) (wb wp:Bool) (d':Array α),m=q-p∧p≤q∧q≤n∧q-p≤w∧lim≤1000∧d'.size=n∧Below (ltc cf) p q d'∧(∀R,PermIn p q d' R→SortedIn (ltc cf) p q R→PermIn a e d R∧SortedIn (ltc cf) a e R)∧σ'=σ.set b (.rows 4 (rw' en d') false cap)∧fr 0=slv b n cap∧fr 1=int p∧fr 2=int q∧fr 3=int lim∧fr 4=fnv g∧fr 10=boo wb∧fr 11=boo wp,⟨_,a,e,limit,true,true,d,rfl,hae,he,hw,hlim,hd,hB,fun R h1 h2=>⟨h1,h2⟩,(Bv hb).symm,rfl,rfl,rfl,rfl,rfl,rfl,rfl⟩,?_⟩;rintro m fr σ' ⟨p,q,lim,wb,wp,dd,rfl,hpq,hq,hw2,hlim2,hdd,hB2,hF,rfl,f0,f1,f2,f3,f4,f10,f11⟩;have w1:IntKind.i64.wrap ((q:Int)-p)=((q-p:Nat):Int):=by rw[Ai (by omega)];omega
 simp only[go_sem];rw[Aa];simp only[go_sem,f1,f2,w1];refine aIf_by (fun g1=>?_) (fun g1=>?_)
 ·simp only[go_sem,f0,f1,f2,f4]
  refine(I4 hl ho hC (σ:=σ.set b (.rows 4 (rw' en dd) false cap)) (d:=dd) Ab hn (Ak hn hs) hdd hsz (a:=p) (e:=q) hq (by omega)).mono ?_;rintro _ σ1 rfl;simp only[go_sem];have h:=insertionSort_holds (lt:=ltc cf) hS dd p q hpq (by omega);exact Ac (r:=.tup []) rfl ⟨_,rfl,hF _ h.1 h.2⟩
 simp only[go_sem,f3];refine aIf_by (fun g2=>?_) (fun g2=>?_)
 ·simp only[go_sem,f0,f1,f2,f4]
  refine(Td hl ho hC (σ:=σ.set b (.rows 4 (rw' en dd) false cap)) (d:=dd) Ab hn (Ak hn hs) hdd hsz (a:=p) (e:=q) hq (by omega)).mono ?_;rintro _ σ1 rfl;simp only[go_sem];have h:=heapSort_holds (lt:=ltc cf) hS dd p q hpq (by omega);exact Ac (r:=.tup []) rfl ⟨_,rfl,hF _ h.1 h.2⟩
 simp only[go_sem,f10];refine Q6 (fun fr σ'=>∃(lim':Nat) (d1:Array α),lim'≤1000∧PermIn p q dd d1∧σ'=σ.set b (.rows 4 (rw' en d1) false cap)∧fr 0=slv b n cap∧fr 1=int p∧fr 2=int q∧fr 3=int lim'∧fr 4=fnv g∧fr 10=boo wb∧fr 11=boo wp∧fr 12=int (q-p:Nat)) (fun g3=>?_) (fun g3=>?_) ?_
 ·simp only[go_sem]
  exact⟨lim,dd,hlim2,permIn_refl dd p q,rfl,f0,f1,f2,f3,f4,f10,f11⟩
 ·have w2:IntKind.i64.wrap ((lim:Int)-1)=((lim-1:Nat):Int):=by rw[Ai (by omega)];omega
  simp only[go_sem,f0,f1,f2,f4];refine(Oy hl ho (σ:=σ.set b (.rows 4 (rw' en dd) false cap)) (d:=dd) Ab hdd hsz (a:=p) (e:=q) hq (by omega)).mono ?_;rintro _ σ1 rfl;simp only[go_sem,f0,f1,f2,f3,f4,f10,f11,w2];refine⟨lim-1,breakPatterns dd p q,by omega,breakPatterns_holds dd p q hpq (by omega),rfl,rfl⟩
 clear f0 f1 f2 f3 f4 f10 f11 fr hlim2;rintro fr σ' ⟨lim,d1,hlim2,hP1,rfl,f0,f1,f2,f3,f4,f10,f11,f12⟩;have hz1:d1.size=n:=by rw[hP1.1];exact hdd
 have hB1:Below (ltc cf) p q d1:=hB2.perm (by omega) hP1;have hc0:=choosePivot_holds (ltc cf) d1 p q (by omega);simp only[go_sem,f0,f1,f2,f4];refine(P6 hl ho hC (σ:=σ.set b (.rows 4 (rw' en d1) false cap)) (d:=d1) Ab hn (Ak hn hs) hz1 hsz (a:=p) (e:=q) hq (by omega)).p ?_;generalize choosePivot (ltc cf) d1 p q=c at hc0⊢;obtain⟨c1,c2⟩:=c;simp only[go_sem,f0,f1,f2,f4];refine D8 (fun fr σ'=>∃(pv:Nat) (h:Int) (d2:Array α),p≤pv∧pv<q∧PermIn p q d1 d2∧σ'=σ.set b (.rows 4 (rw' en d2) false cap)∧fr 0=slv b n cap∧fr 1=int p∧fr 2=int q∧fr 3=int lim∧fr 4=fnv g∧fr 10=boo wb∧fr 11=boo wp∧fr 12=int (q-p:Nat)∧fr 13=int pv∧fr 14=int h) (fun g3=>?_) (fun g3=>?_) ?_
 ·simp only[go_sem,f0,f1,f2,f4]
  refine(Yc hl ho (σ:=σ.set b (.rows 4 (rw' en d1) false cap)) (d:=d1) Ab hz1 hsz (a:=p) (e:=q) hq (by omega)).mono ?_;rintro _ σ1 rfl;have hc1:p≤c1:=hc0.1;have hc2:c1<q:=hc0.2;have w3:IntKind.i64.wrap (IntKind.i64.wrap ((q:Int)-1)-IntKind.i64.wrap ((c1:Int)-p))=((q-1-(c1-p):Nat):Int):=by
   rw[Ai (x:=(q:Int)-1) (by omega),Ai (x:=(c1:Int)-p) (by omega),Ai (by omega)];omega
  simp only[go_sem,f0,f1,f2,f3,f4,f10,f11,f12,w3];exact⟨q-1-(c1-p),1,reverseRange d1 p q,by omega,by omega,reverseRange_holds d1 p q hpq (by omega),rfl,rfl,rfl⟩
 ·simp only[go_sem]
  exact⟨c1,I3 c2,d1,hc0.1,hc0.2,permIn_refl d1 p q,rfl,f0,f1,f2,f3,f4,f10,f11,f12,rfl,rfl⟩
 clear f0 f1 f2 f3 f4 f10 f11 f12 fr hc0;rintro fr σ' ⟨pv,h,d2,hp1,hp2,hP2,rfl,f0,f1,f2,f3,f4,f10,f11,f12,f13,f14⟩;have hz2:d2.size=n:=by rw[hP2.1];exact hz1
 have hB3:Below (ltc cf) p q d2:=hB1.perm (by omega) hP2;apply H8 (fun fr σ'=>∃(d3:Array α),PermIn p q d2 d3∧σ'=σ.set b (.rows 4 (rw' en d3) false cap)∧fr 0=slv b n cap∧fr 1=int p∧fr 2=int q∧fr 3=int lim∧fr 4=fnv g∧fr 10=boo wb∧fr 11=boo wp∧fr 12=int (q-p:Nat)∧fr 13=int pv)
 case h1=>
  intro key;cases wb
  ·simp only[go_sem,f10]
   refine key _ _ ?_;exact⟨d2,permIn_refl d2 p q,rfl,f0,f1,f2,f3,f4,f10,f11,f12,f13⟩
  ·cases wp
   ·simp only[go_sem,f10,f11]
    refine key _ _ ?_;exact⟨d2,permIn_refl d2 p q,rfl,f0,f1,f2,f3,f4,f10,f11,f12,f13⟩
   ·simp only[go_sem,f10,f11,f14]
    refine aIf_by (fun g4=>?_) (fun g4=>?_)
    ·simp only[go_sem,f0,f1,f2,f4]
     refine(K4 hl ho hC (σ:=σ.set b (.rows 4 (rw' en d2) false cap)) (d:=d2) Ab hn (Ak hn hs) hz2 hsz (a:=p) (e:=q) hq (by omega)).p ?_;have hpi:=partialInsertionSort_holds (lt:=ltc cf) hS d2 p q (by omega) (by omega) hB3;simp only[go_sem];refine aIf_bool (fun g5=>?_) (fun g5=>?_)
     ·simp only[go_sem]
      exact Ac (r:=.tup []) rfl ⟨_,rfl,hF _ (permIn_trans _ _ _ p q (permIn_trans _ _ _ p q hP1 hP2) hpi.1) (hpi.2 g5)⟩
     ·simp only[go_sem]
      refine key _ _ ?_;exact⟨_,hpi.1,rfl,f0,f1,f2,f3,f4,f10,f11,f12,f13⟩
    ·simp only[go_sem]
     refine key _ _ ?_;exact⟨d2,permIn_refl d2 p q,rfl,f0,f1,f2,f3,f4,f10,f11,f12,f13⟩
 case h2=>
  clear f0 f1 f2 f3 f4 f10 f11 f12 f13 f14 fr;rintro fr σ' ⟨d3,hP3,rfl,f0,f1,f2,f3,f4,f10,f11,f12,f13⟩;have hz3:d3.size=n:=by rw[hP3.1];exact hz2
  have hB4:Below (ltc cf) p q d3:=hB3.perm (by omega) hP3;have hF3:∀R,PermIn p q d3 R→SortedIn (ltc cf) p q R→PermIn a e d R∧SortedIn (ltc cf) a e R:=fun R h1 h2=>hF R (permIn_trans _ _ _ p q (permIn_trans _ _ _ p q (permIn_trans _ _ _ p q hP1 hP2) hP3) h1) h2;clear hF hP1 hP2 hP3 hB1 hB2 hB3 hz1 hz2 hdd d1 d2;refine Ag [.rd 0 false,.rd 1 false,.rd 2 false,.rd 3 false,.rd 4 false,.rd 5 false,.rd 6 false,.rd 7 false,.rd 8 true,.rd 9 false,.rd 10 false,.rd 11 false,.rd 12 true,.ef 13 [],.rd 14 false,.rd 15 false,.rd 16 false] ?_;by_cases g6:(0:Int)<p
  ·have w5:IntKind.i64.wrap ((p:Int)-1)=((p-1:Nat):Int):=by rw[Ai (by omega)];omega
   have q1:=An (en:=en) (d:=d3) (j:=p-1) (by omega);have q2:=An (en:=en) (d:=d3) (j:=pv) (by omega);simp only[go_sem,f0,f1,f4,f13,decide_eq_true g6,w5,Ab,q1,q2,A8 hl];refine⟨by omega,by omega,by omega,by omega,(hC _ (Ak hn hs) _ _).p ?_⟩;simp only[go_sem];refine aIf_by (fun g7=>?_) (fun g7=>?_)
   ·simp only[go_sem,f0,f1,f2,f4,f13]
    refine(Mb hl ho hC (σ:=σ.set b (.rows 4 (rw' en d3) false cap)) (d:=d3) Ab hn (Ak hn hs) hz3 hsz (a:=p) (e:=q) (pv:=pv) hq (by omega) (by omega)).p ?_;generalize hx:partition (ltc cf) d3 p q pv=x;obtain⟨mid,ap,d4⟩:=x;obtain⟨g7,g8,hs4,hBa,hBr,hleft,hright⟩:=round_part hS (partition_holds (ltc cf)) hp1 hp2 (by omega) hB4 hx;have v1:IntKind.i64.wrap ((mid:Int)-p)=((mid-p:Nat):Int):=by rw[Ai (by omega)];omega
    have v2:IntKind.i64.wrap ((q:Int)-mid)=((q-mid:Nat):Int):=by rw[Ai (by omega)];omega
    have v3:IntKind.i64.wrap (((q-p:Nat):Int).tdiv 8)=(((q-p)/8:Nat):Int):=by rw[Int.tdiv_eq_ediv_of_nonneg (by omega),Ai (by omega)];omega
    simp only[go_sem,f1,f2,f12,v1,v2,v3];refine aIf_by (fun g9=>?_) (fun g9=>?_)
    ·simp only[go_sem,f0,f1,f2,f3,f4]
     refine(ih (mid-p) (by omega) (σ:=σ.set b (.rows 4 (rw' en d4) false cap)) (d:=d4) (a:=p) (e:=mid) (limit:=lim) (Nat.le_refl _) Ab (Ak hn hs) (by omega) g7 (by omega) hlim2 hBa).mono ?_;rintro _ _ ⟨d5,rfl,l1,l2⟩;obtain⟨hBL,hfin⟩:=hleft _ l1 l2;simp only[go_sem,f0,f2,f3,f4,A2 mid (by omega)];exact⟨q-(mid+1),by omega,mid+1,q,lim,decide ((((q-p)/8:Nat):Int)≤((mid-p:Nat):Int)),ap,d5,rfl,by omega,by omega,by omega,hlim2,by rw[l1.1];omega,hBL,fun R h1 h2=>(fun hh=>hF3 R hh.1 hh.2) (hfin R h1 h2),rfl,rfl,rfl,rfl,rfl,rfl⟩
    ·simp only[go_sem,f0,f1,f2,f3,f4,A2 mid (by omega)]
     refine(ih (q-(mid+1)) (by omega) (σ:=σ.set b (.rows 4 (rw' en d4) false cap)) (d:=d4) (a:=mid+1) (e:=q) (limit:=lim) (Nat.le_refl _) Ab (Ak hn hs) (by omega) (by omega) (by omega) hlim2 hBr).mono ?_;rintro _ _ ⟨d5,rfl,l1,l2⟩;obtain⟨hBL,hfin⟩:=hright _ l1 l2;simp only[go_sem,f0,f1,f3,f4];exact⟨mid-p,by omega,p,mid,lim,decide ((((q-p)/8:Nat):Int)≤((q-mid:Nat):Int)),ap,d5,rfl,by omega,by omega,by omega,hlim2,by rw[l1.1];omega,hBL,fun R h1 h2=>(fun hh=>hF3 R hh.1 hh.2) (hfin R h1 h2),rfl,rfl,rfl,rfl,rfl,rfl⟩
   ·simp only[go_sem,f0,f1,f2,f4,f13]
    refine(Nc hl ho hC (σ:=σ.set b (.rows 4 (rw' en d3) false cap)) (d:=d3) Ab hn (Ak hn hs) hz3 hsz (a:=p) (e:=q) (pv:=pv) hq (by omega) (by omega)).p ?_;generalize hx:partitionEqual (ltc cf) d3 p q pv=x;obtain⟨mid,d4⟩:=x;obtain⟨g8,g9,hs4,hBr,hfin⟩:=round_eq hS (partitionEqual_holds (ltc cf)) (by omega) hp1 hp2 (by omega) hB4 (by unfold ltc;exact decide_eq_false g7) hx;simp only[go_sem,f0,f2,f3,f4,f10,f11];exact⟨q-mid,by omega,mid,q,lim,wb,wp,d4,rfl,by omega,by omega,by omega,hlim2,by omega,hBr,fun R h1 h2=>(fun hh=>hF3 R hh.1 hh.2) (hfin R h1 h2),rfl,rfl,rfl,rfl,rfl,rfl⟩
  ·simp only[go_sem,f1,decide_eq_false g6]
   simp only[go_sem,f0,f1,f2,f4,f13];refine(Mb hl ho hC (σ:=σ.set b (.rows 4 (rw' en d3) false cap)) (d:=d3) Ab hn (Ak hn hs) hz3 hsz (a:=p) (e:=q) (pv:=pv) hq (by omega) (by omega)).p ?_;generalize hx:partition (ltc cf) d3 p q pv=x;obtain⟨mid,ap,d4⟩:=x;obtain⟨g7,g8,hs4,hBa,hBr,hleft,hright⟩:=round_part hS (partition_holds (ltc cf)) hp1 hp2 (by omega) hB4 hx;have v1:IntKind.i64.wrap ((mid:Int)-p)=((mid-p:Nat):Int):=by rw[Ai (by omega)];omega
   have v2:IntKind.i64.wrap ((q:Int)-mid)=((q-mid:Nat):Int):=by rw[Ai (by omega)];omega
   have v3:IntKind.i64.wrap (((q-p:Nat):Int).tdiv 8)=(((q-p)/8:Nat):Int):=by rw[Int.tdiv_eq_ediv_of_nonneg (by omega),Ai (by omega)];omega
   simp only[go_sem,f1,f2,f12,v1,v2,v3];refine aIf_by (fun g9=>?_) (fun g9=>?_)
   ·simp only[go_sem,f0,f1,f2,f3,f4]
    refine(ih (mid-p) (by omega) (σ:=σ.set b (.rows 4 (rw' en d4) false cap)) (d:=d4) (a:=p) (e:=mid) (limit:=lim) (Nat.le_refl _) Ab (Ak hn hs) (by omega) g7 (by omega) hlim2 hBa).mono ?_;rintro _ _ ⟨d5,rfl,l1,l2⟩;obtain⟨hBL,hfin⟩:=hleft _ l1 l2;simp only[go_sem,f0,f2,f3,f4,A2 mid (by omega)];exact⟨q-(mid+1),by omega,mid+1,q,lim,decide ((((q-p)/8:Nat):Int)≤((mid-p:Nat):Int)),ap,d5,rfl,by omega,by omega,by omega,hlim2,by rw[l1.1];omega,hBL,fun R h1 h2=>(fun hh=>hF3 R hh.1 hh.2) (hfin R h1 h2),rfl,rfl,rfl,rfl,rfl,rfl⟩
   ·simp only[go_sem,f0,f1,f2,f3,f4,A2 mid (by omega)]
    refine(ih (q-(mid+1)) (by omega) (σ:=σ.set b (.rows 4 (rw' en d4) false cap)) (d:=d4) (a:=mid+1) (e:=q) (limit:=lim) (Nat.le_refl _) Ab (Ak hn hs) (by omega) (by omega) (by omega) hlim2 hBr).mono ?_;rintro _ _ ⟨d5,rfl,l1,l2⟩;obtain⟨hBL,hfin⟩:=hright _ l1 l2;simp only[go_sem,f0,f1,f3,f4];exact⟨mid-p,by omega,p,mid,lim,decide ((((q-p)/8:Nat):Int)≤((q-mid:Nat):Int)),ap,d5,rfl,by omega,by omega,by omega,hlim2,by rw[l1.1];omega,hBL,fun R h1 h2=>(fun hh=>hF3 R hh.1 hh.2) (hfin R h1 h2),rfl,rfl,rfl,rfl,rfl,rfl⟩
theorem sort_at{σ:St}{d:Array α}(hb:σ b=some (.rows 4 (rw' en d) false cap))(hs:∀x o,β x=some o→σ x=some o)(hd:d.size=n):AT Tryz.prog 113 [slv b n cap,fnv g] σ fun _ σ'=>∃d',σ'=σ.set b (.rows 4 (rw' en d') false cap)∧d'.toList.Perm d.toList∧SortedIn (ltc cf) 0 n d':=by
 refine AT.ob Tryz.func113 rfl ?_;have w1:IntKind.u64.wrap (n:Int)=(n:Int):=by rw[Mn];omega
 simp only[go_sem,w1];refine(Pw (x:=n) (by omega)).p ?_;have hbl:=Sw (z:=n) (by omega);simp only[go_sem];refine(X7 hl ho hC hn hsz hS n (a:=0) (e:=n) (limit:=bitsLen n) (by omega) hb hs hd (by omega) (by omega) (by omega) (.inl rfl)).mono ?_;rintro _ _ ⟨d',rfl,h1,h2⟩;simp only[go_sem];refine Ac (r:=.tup []) rfl ⟨d',rfl,?_,h2⟩;have h3:=h1.2.2;rw[Array.extract_eq_self_of_le (by rw[h1.1];omega),Array.extract_eq_self_of_le (by omega)]at h3;exact h3
end
end Go.Proofs.YtmifmncabejffaaGreat.F
namespace Go.Proofs.YtmifmncabejffaaGreat
open Go Go.Av
structure FS where
 f:Fa
 sm:f.Sm
instance:Inhabited FS:=⟨⟨⟨emp,emp,emp,[]⟩,by simp[Fa.Sm]⟩⟩
def FS.en(x:FS):List AV:=x.f.cs
def FS.cf(x y:FS):Int:=A4 x.f y.f
def FS.eq(x y:FS):Bool:=decide (x.f=y.f)
theorem FS.swo:Go.Sort.SWO (ltc FS.cf) where
 irrefl x:=Ap.swo.irrefl x.f
 trans x y z:=Ap.swo.trans x.f y.f z.f
 ntrans x y z:=Ap.swo.ntrans x.f y.f z.f
section
variable{σ:St}
theorem FS.ord_at{β:St}(σ':St)(hs:∀x o,β x=some o→σ' x=some o)(x y:FS):AT Tryz.prog 112 [.agg x.en,.agg y.en] σ' fun r σ''=>r=int (FS.cf x y)∧σ''=σ':=
 Gx x.f y.f x.sm y.sm
theorem FS.eq_at{β:St}(σ':St)(hs:∀x o,β x=some o→σ' x=some o)(x y:FS):AT Tryz.prog 115 [.agg x.en,.agg y.en] σ' fun r σ''=>r=boo (FS.eq x y)∧σ''=σ':=by
 refine AT.ob Tryz.func115 rfl ?_;have ex:x.en=x.f.cs:=rfl;have ey:y.en=y.f.cs:=rfl;simp only[go_sem,ex,ey];refine Ctx.nil.alloc fun p σ1 c1=>?_;simp only[go_sem,ex,ey];refine c1.alloc fun q σ2 c2=>?_;simp only[go_sem,c2.g1];refine(Gx x.f y.f x.sm y.sm).p ?_;simp only[go_sem];exact Ae (r:=boo _) rfl _ σ' (c2.view _) ⟨by unfold FS.eq;rw[decide_eq_decide.2 (Ap.zero x.f y.f)],rfl⟩
theorem FS.done{d:Array FS}{out:List Fa}(hp:(d.toList.map FS.f).Perm out)(hs:Go.Sort.SortedIn (ltc FS.cf) 0 d.size d):(Cl FS.eq d.toList).map FS.f=Cc A4 [] out:=by
 rw[U1 (e:=FS.eq) (f:=FS.f) (e':=fun a b=>decide (a=b)) (fun x y=>by unfold FS.eq;simp) (fun x y=>by simp)];refine Pd Ap (fun x y=>by simp) hp ?_ (.refl _);rw[List.pairwise_map];exact R8 (c:=FS.cf) (fun x y=>Ap.anti x.f y.f) hs
theorem Xs(g:Nat):AT Tryz.prog 214 [Ax,int 0,int 0,fnv g] σ fun _ σ'=>σ'=σ:=by
 refine AT.ob Tryz.func214 rfl ?_;have w:IntKind.i64.wrap (0+1)=1:=by rw[Ai (by omega)];rfl
 simp only[go_sem,Aa,w];refine Fu 1 ?_;simp only[go_sem,Aa];exact Ac (r:=.tup []) rfl rfl
theorem X8(g:Nat)(lim:Nat):AT Tryz.prog 171 [Ax,int 0,int 0,int lim,fnv g] σ fun _ σ'=>σ'=σ:=by
 refine AT.ob Tryz.func171 rfl ?_;have w:IntKind.i64.wrap (0-0)=0:=by rw[Ai (by omega)];rfl
 simp only[go_sem,Aa];refine Fu 1 ?_;simp only[go_sem,Aa,w];refine(Xs g).mono ?_;rintro _ _ rfl;simp only[go_sem,Aa];exact Ac (r:=.tup []) rfl rfl
theorem Wh(g:Nat):AT Tryz.prog 113 [Ax,fnv g] σ fun _ σ'=>σ'=σ:=by
 refine AT.ob Tryz.func113 rfl ?_;have w1:IntKind.u64.wrap (0:Int)=(0:Int):=by simp[IntKind.wrap,IntKind.signed,IntKind.bits]
 simp only[go_sem,w1];refine(Pw (x:=0) (by omega)).p ?_;simp only[go_sem];refine(X8 g _).mono ?_;rintro _ _ rfl;simp only[go_sem];exact Ac (r:=.tup []) rfl rfl
theorem Uy(g:Nat):AT Tryz.prog 114 [Ax,fnv g] σ fun r σ'=>r=Ax∧σ'=σ:=by
 refine AT.ob Tryz.func114 rfl ?_;have d:decide ((0:Int)<2)=true:=rfl;simp only[go_sem,d];exact Ac (r:=Ax) rfl ⟨rfl,rfl⟩
def Made(σ σ':St)(v:AV)(l:List Fa):Prop:=Ow 4 σ' v (faC l)∧(∀x o,σ x=some o→σ' x=some o)∧∀x,Own v x→σ x=none
theorem Made.grow{σ σ':St}{v:AV}{l:List Fa}(h:Made σ σ' v l):Cz σ σ' v:=fun y o hy=>⟨h.2.1 y o hy,fun ho=>by rw[h.2.2 y ho]at hy;cases hy⟩
theorem Made.view{σ σ':St}{v:AV}{l:List Fa}(h:Made σ σ' v l):Ey σ' v σ (.sl 4 (faC l)):=H9 h.1.lat h.grow
theorem Zv:∀(l:List Fa),(∀f∈l,f.Sm)→∃L:List FS,L.map FS.f=l
 | [],_=>⟨[],rfl⟩
 |f::l,h=>by
  obtain⟨L,hL⟩:=Zv l fun g hg=>h g (by simp[hg]);exact⟨⟨f,h f (by simp)⟩::L,by rw[List.map_cons,hL]⟩
theorem Amd(L:List FS):L.map FS.en=faC (L.map FS.f):=by
 unfold faC;rw[List.map_map];rfl
theorem Ib{v0:AV}(l:List Fa)(h0:Rd 4 σ v0 (faC l))(hl:l.length≤1000000000000)(hls:∀f∈l,f.Sm):AT Tryz.prog 59 [v0] σ fun v σ'=>Made σ σ' v (Cc A4 [] l):=by
 refine AT.ob Tryz.func59 rfl ?_;simp only[go_sem,Aa,h0.len,Am];refine⟨fun m fr σ'=>∃(i:Nat) (lv:AV) (es:List (List AV)),m=l.length-i∧i≤l.length∧CP σ σ' lv es (l.take i)∧Ow 4 σ' lv es∧lv≠.fsl 4 []∧fr 3=lv∧fr 6=v0∧fr 7=int l.length∧fr 8=int i,⟨_,0,Ax,[],rfl,by omega,⟨fun _ _ h=>h,.none,fun x hx=>absurd hx Bu,by simp,fun j hj=>by simp at hj⟩,.inl ⟨rfl,.inl rfl⟩,by simp,rfl,rfl,rfl,rfl⟩,?_⟩;rintro m fr σ1 ⟨i,lv,es,rfl,hi,⟨p1,p2,p3,p4,p5⟩,hO,hnf,f3,f6,f7,f8⟩;simp only[go_sem,f7,f8];refine aIf_by (fun hlt=>?_) (fun hlt=>?_)
 ·have hil:i<l.length:=by omega
  have hsm:=hls _ (List.getElem_mem hil);unfold Fa.Sm at hsm;simp only[go_sem,Aa,f6,f8];refine(h0.keep p1).elem (by omega) (by rw[Am];omega) fun e0 he0=>?_;simp only[go_sem,Aa];refine he0.load (by decide) (by rw[Int.toNat_natCast,Bc hil];exact Nat.le_refl 4) ?_;simp only[go_sem,Aa,Bc hil];refine Ctx.nil.alloc fun t5 σ2 c1=>?_;obtain⟨σ3,e3,c2⟩:=c1.abs 0 rfl (.cells l[i].cs);simp only[go_sem,Aa,c1.g0,e3,c2.g0];refine(Mv l[i].ar hsm .sl).mono ?_;rintro la σ4 ⟨h1,G1⟩;have k4:=G1 _ _ c2.g0;simp only[go_sem,Aa,k4.1,h1.lat.one,h1.lat.cells];have esp:Au l[i].cs 3 [la]=faX l[i] la:=rfl;have eal:(faX l[i] la).all AV.one=true:=Ag2 _ h1.lat.one;obtain⟨σ5,e5⟩:∃s,σ4.set t5 (.cells (faX l[i] la))=s:=⟨_,rfl⟩;have k5:σ5 t5=some (.cells (faX l[i] la)):=by rw[←e5];exact Ab
  have s5:∀y o,σ1 y=some o→σ5 y=some o:=fun y o hy=>by
   rw[←e5,Ad fun e=>by
    have:=c2.f0;rw[←e,hy]at this;cases this]
   exact(G1 _ _ (c2.sub _ _ hy)).1
  simp only[go_sem,Aa,esp,e5,k5,eal,f3];have p2':=p2.keep (σ':=σ5) fun y o hy _=>s5 y o hy;refine As (ys:=[faX l[i] la]) (by rfl) (by decide) (by decide) (by decide) (Ow.of_app p2' (by simp) (by rw[p4,List.length_take];simp only[List.length_cons,List.length_nil];omega) fun lv' σ6 h2 g2 _=>?_);simp only[go_sem,Aa,f6,f7,f8,A2 i (by omega)];have nol:∀y,σ y≠none→¬Own lv y:=fun y hy ho=>hy (p3 y ho);have n3:∀{q:Nat} {es':List (List AV)} {cap:Nat} {y:Nat},q≠4→σ1 y=some (.rows q es' false cap)→¬Own lv y:=fun hq hy ho=>by
   obtain⟨c,hc⟩:=p2.own_rows ho;rw[hc]at hy;injection hy with hy;injection hy with hy;exact hq hy.symm
  have h5:LAt 3 σ5 la (cnC l[i].ar):=h1.lat.keep fun y o hy ho=>by
   rw[←e5,Ad fun e=>by subst e;exact k4.2 ho];exact hy
  have hla6:LAt 3 σ6 la (cnC l[i].ar):=h5.keep fun y o hy ho=>(g2 y o hy fun ho'=>by
   obtain⟨c,hc⟩:=p2'.own_rows ho';obtain⟨c',hc'⟩:=h5.own_rows ho;rw[hc]at hc';cases hc').1
  refine⟨l.length-(i+1),by omega,i+1,lv',es++[faX l[i] la],rfl,by omega,⟨fun y o hy=>(g2 _ _ (s5 _ _ (p1 y o hy)) (nol y (by rw[hy];simp))).1,h2.lat,fun y ho=>?_,by simp[p4];omega,fun j hj=>?_⟩,h2,?_,rfl,rfl⟩
  ·cases hy:σ y with
   |none=>rfl
   |some o=>exact absurd ho (g2 _ _ (s5 _ _ (p1 y o hy)) (nol y (by rw[hy];simp))).2
  ·by_cases e:j<i
   ·have hj':j<(l.take i).length:=by simp;omega
    obtain⟨a,a1,a2,a3⟩:=p5 j hj';refine⟨a,?_,?_,a3⟩
    ·rw[List.getD_eq_getElem?_getD,List.getElem?_append_left (by rw[p4];exact hj'),←List.getD_eq_getElem?_getD,a1]
     simp
    ·have:(l.take (i+1))[j]=(l.take i)[j]:=by simp
     rw[this];refine a2.keepO fun y o hy ho=>?_;obtain⟨c,hc⟩:=a2.own_rows ho;exact(g2 _ _ (s5 _ _ hy) (n3 (by decide) hc)).1
   ·have e2:j=i:=by simp at hj;omega
    subst e2;have e3:(l.take (j+1))[j]=l[j]:=by simp
    rw[e3];refine⟨la,?_,.of hla6,fun y ho=>?_⟩
    ·have:es.length=j:=by rw[p4];simp;omega
     rw[List.getD_eq_getElem?_getD,List.getElem?_append_right (by omega),this];simp
    ·exact Cj (fun z o hz=>c2.sub _ _ (p1 z o hz)) (G1.own ho)
  ·rcases h2 with⟨e,_⟩|⟨b,c,rfl,_⟩
   ·simp at e
   ·intro e;cases e
 ·rw[List.take_of_length_le (by omega)]at p4 p5
  have hcp:CP σ σ1 lv es l:=⟨p1,p2,p3,p4,p5⟩;simp only[go_sem,Aa,f3];rcases hO with⟨rfl,hlo|hlo⟩|⟨b,cap,rfl,hcap,hb⟩
  ·subst hlo
   refine(Wh _).mono ?_;rintro _ σ1 rfl;simp only[go_sem,Aa,f3];refine(Uy _).p ?_;have e0:l=[]:=List.eq_nil_of_length_eq_zero (by simpa using p4.symm);simp only[go_sem,Aa];exact Ac (r:=Ax) rfl ⟨by rw[e0];exact .inl ⟨rfl,.inl rfl⟩,p1,fun x hx=>absurd hx Bu⟩
  ·exact absurd hlo hnf
  ·have hbn:σ b=none:=p3 b (Bg.2 rfl)
   obtain⟨L,hL1⟩:=Zv l hls;have hel:es.length=L.length:=by rw[p4,←hL1,List.length_map]
   have hLl:L.length≤1000000000000:=by rw[←hL1,List.length_map]at hl;exact hl
   have hSV:SV σ1 (σ.set b (.rows 4 (rw' FS.en L.toArray) false cap)):=by
    refine K8 hb ⟨rfl,rfl,rfl,by rw[Ak5,hel];simp,fun j hj=>?_⟩ fun x p hne hx=>p1 x p hx;have hjl:j<l.length:=by omega
    have hjL:j<L.length:=by omega
    obtain⟨a,a1,a2,a3⟩:=p5 j hjl;have e1:(rw' FS.en L.toArray).getD j []=l[j].cs:=by
     have:(L.map FS.f)[j]'(by simpa using hjL)=l[j]:=List.getElem_of_eq hL1 _;rw[←this];simp[rw',List.getD_eq_getElem?_getD,hjL,FS.en]
    rw[a1,e1];refine vws_same (vws_same (vws_same (vws_cons (a2.vw fun x hx=>?_) Cm)));rw[Ad fun e=>?_]
    ·exact a3 x hx
    ·subst e
     obtain⟨c,hc⟩:=a2.own_rows hx;rw[hb]at hc;cases hc
   refine AT.pre (args':=[slv b es.length cap,fnv 112]) ((F.sort_at (fun _=>rfl) (fun _=>rfl) FS.ord_at hbn (n:=es.length) (by omega) FS.swo Ab (Ak hbn fun _ _ h=>h) (by simpa using hel.symm)).mono ?_) (by kernel_rfl) hSV (Ch _);rintro _ _ ⟨d',rfl,hp,hsd⟩;rw[B5];have hdl:es.length=d'.toList.length:=by rw[hp.length_eq,hel]
   simp only[go_sem,Aa,f3];rw[hdl];refine(F.compact_at (fun _=>rfl) (fun _=>rfl) FS.eq_at hbn (l:=d'.toList) Ab (Ak hbn fun _ _ h=>h) (by omega) (by omega)).p ?_;rw[B5];simp only[go_sem,Aa];have hsz:d'.size=es.length:=by simpa using hdl.symm
   have hd:=FS.done (d:=d') (out:=l) (by rw[←hL1];exact hp.map FS.f) (by rw[hsz];exact hsd);have hcl:=O8 FS.eq d'.toList;refine Ac (r:=slv b (Cl FS.eq d'.toList).length cap) rfl ⟨.inr ⟨b,cap,by rw[Am,←hd,List.length_map],by rw[Am,←hd,List.length_map];omega,by rw[Ab,Amd,hd]⟩,Ak hbn fun _ _ h=>h,fun x hx=>by rw[Bg.1 hx];exact hbn⟩
end
def Ej(t:Tm)(env:List Bi):Option ByteArray:=match Ei t env with
 |some c=>if c=nmC c.s then some c.s else none
 |none=>none
def Ed:List Tm→List Bi→Option (List Cn)
 | [],_=>some []
 |t::l,env=>match Ei t env with
  |some c=>(Ed l env).map (c::·)
  |none=>none
def If(r:Rl)(env:List Bi):Option Fa:=(Ej r.ho env).bind fun b=>(Ej (orT r.at' r.ho) env).bind fun a=>(Ed r.ar env).map fun args=>⟨a,b,r.nm,args⟩
section
variable{σ:St}
theorem Ace{t:Tm}{env:List Bi}(h:t= .zero):Ei t env=none:=by unfold Ei;rw[if_pos h]
theorem Afk{t:Tm}{env:List Bi}(h:¬t= .zero)(h1:t.v=emp):Ei t env=some t.val:=by unfold Ei;rw[if_neg h,if_pos h1]
theorem Wt{t:Tm}{env:List Bi}(h:¬t= .zero)(h1:¬t.v=emp):Ei t env=N2 env t.v:=by unfold Ei;rw[if_neg h,if_neg h1]
theorem Qq(t:Tm)(env:List Bi)(hl:env.length≤1000000000000):AT Tryz.prog 156 [.agg t.cs,.sl 4 (biC env)] σ fun r σ'=>r=resV (Ei t env)∧σ'=σ:=by
 refine AT.ob Tryz.func156 rfl ?_;simp only[go_sem];refine Ctx.nil.alloc fun p σ1 c1=>?_;simp only[go_sem];refine c1.alloc fun q σ2 c2=>?_;simp only[go_sem,c2.g1];refine Afd ?_;simp only[go_sem];refine aIf_by (fun h=>?_) (fun h=>?_)
 ·simp only[go_sem,c2.g1]
  exact Gv σ (resV none) rfl Ab tk86 rfl rfl ((c2.upd 0 rfl).view _) ⟨by rw[Ace h],rfl⟩
 ·simp only[go_sem,c2.g1]
  refine aIf_by (fun h1=>?_) (fun h1=>?_)
  ·simp only[go_sem,c2.g1]
   exact Gv σ (resV (some t.val)) rfl Ab tk86 rfl rfl ((c2.upd 0 rfl).view _) ⟨by rw[Afk h h1],rfl⟩
  ·simp only[go_sem]
   refine(Akt env hl c2.g1.1.2).mono ?_;rintro _ σ' ⟨rfl,⟨i,hi,rfl,hI⟩|⟨rfl,hI⟩⟩
   ·have g:decide ((i:Int)<0)=false:=decide_eq_false (by omega)
    simp only[go_sem,g];simp only[go_sem,c2.g1,Y4 hi];refine⟨by omega,?_⟩;exact Gv σ (resV (some env[i].c)) rfl Ab tk86 rfl rfl ((c2.upd 0 rfl).view _) ⟨by rw[Wt h h1,hI],rfl⟩
   ·have g:decide ((-1:Int)<0)=true:=rfl
    simp only[go_sem,g];simp only[go_sem,c2.g1];exact Gv σ (resV none) rfl Ab tk86 rfl rfl ((c2.upd 0 rfl).view _) ⟨by rw[Wt h h1,hI],rfl⟩
theorem Q9(env:List Bi)(hl:env.length≤1000000000000):AT Tryz.prog 157 [.sl 4 (biC env)] σ fun r σ'=>LAt 4 σ' r (biC env)∧Cz σ σ' r:=by
 refine AT.ob Tryz.func157 rfl ?_;simp only[go_sem];by_cases he:biC env=[]
 ·refine⟨fun h=>absurd he h,fun _ b=>?_⟩
  refine aIf_bool (fun _=>?_) (fun _=>?_)
  ·simp only[go_sem]
   exact Ac (r:=Ax) rfl ⟨by rw[he];exact .none,.nil⟩
  ·simp only[go_sem]
   refine As (ys:=biC env) (by simp[src]) (by decide) (by decide) (by decide) (LAt.full.app (by rw[Sv];simp only[List.length_nil];omega) fun lv σ1 h1 h2=>?_);simp only[go_sem];exact Ac (r:=lv) rfl ⟨h1,fun y p hy=>h2 y p hy A3⟩
 ·refine⟨fun _=>?_,fun h=>absurd h he⟩
  refine As (ys:=biC env) (by simp[src]) (by decide) (by decide) (by decide) (LAt.full.app (by rw[Sv];simp only[List.length_nil];omega) fun lv σ1 h1 h2=>?_);simp only[go_sem];exact Ac (r:=lv) rfl ⟨h1,fun y p hy=>h2 y p hy A3⟩
end
section
variable{σ:St}{K:AV→Prop}
@[go_sem] theorem Aq3{o:Option Cn}:Ff (resV o) 0 K=K (.agg (o.getD .zero).cs):=by simp[resV,Ff]
@[go_sem] theorem Aq4{o:Option Cn}:Ff (resV o) 1 K=K (boo o.isSome):=by simp[resV,Ff]
@[go_sem] theorem Aq1{o:Option (List Bi)}:Ff (K6 o) 0 K=K (.sl 4 (biC (o.getD []))):=by simp[K6,Ff]
@[go_sem] theorem Aq2{o:Option (List Bi)}:Ff (K6 o) 1 K=K (boo o.isSome):=by simp[K6,Ff]
theorem Yp{t:Tm}{c:Cn}{env:List Bi}(h:Ei t env=none)(h1:t.v=emp):B0 t c env=none:=by unfold B0;rw[h];simp only;rw[if_pos h1]
theorem Yq{t:Tm}{c:Cn}{env:List Bi}(h:Ei t env=none)(h1:¬t.v=emp):B0 t c env=some (env++[⟨t.v,c⟩]):=by unfold B0;rw[h];simp only;rw[if_neg h1]
theorem Yr{t:Tm}{c x:Cn}{env:List Bi}(h:Ei t env=some x)(h1:x=c):B0 t c env=some env:=by unfold B0;rw[h];simp only;rw[if_pos h1]
theorem Ys{t:Tm}{c x:Cn}{env:List Bi}(h:Ei t env=some x)(h1:¬x=c):B0 t c env=none:=by unfold B0;rw[h];simp only;rw[if_neg h1]
theorem Ji(t:Tm)(c:Cn)(env:List Bi)(hl:env.length≤1000000):AT Tryz.prog 99 [.agg t.cs,.agg c.cs,.sl 4 (biC env)] σ fun r σ'=>r=K6 (B0 t c env)∧σ'=σ:=by
 refine AT.ob Tryz.func99 rfl ?_;simp only[go_sem];refine Ctx.nil.alloc fun p σ1 c1=>?_;simp only[go_sem];refine c1.alloc fun q σ2 c2=>?_;simp only[go_sem,c2.g1];refine(Qq t env (by omega)).p ?_;simp only[go_sem];refine c2.alloc fun r σ3 c3=>?_;cases hv:Ei t env with
 |none=>
  obtain⟨σ4,e4,c4⟩:=c3.abs 0 rfl (.cells ((none:Option Cn).getD .zero).cs);simp only[go_sem,c3.g2,e4,c4.g2];refine aIf_by (fun h1=>?_) (fun h1=>?_)
  ·simp only[go_sem]
   exact Ae (r:=.tup [Ax,boo false]) rfl (K6 none) σ (Me c4.sub _) ⟨by rw[Yp hv h1],rfl⟩
  ·simp only[go_sem]
   refine Ag [.rd 0 false,.rd 2 false,.rd 3 true,.rd 4 true,.rd 5 false,.rd 6 false,.ef 1 [3,4],.ef 7 [],.rd 8 false,.rd 9 false] ?_;simp only[go_sem,c4.g2];refine(Q9 env (by omega)).mono ?_;rintro lv σ5 ⟨hL,hG⟩;have c5:=c4.more hG.sub;simp only[go_sem,c5.g2];refine As (ys:=[[str t.v,boo c.b,int c.n,str c.s]]) (by rfl) (by decide) (by decide) (by decide) (hL.app (by rw[Sv];simp only[List.length_cons,List.length_nil];omega) fun lv' σ6 h1' h2'=>?_);simp only[go_sem];have e:biC env++[[str t.v,boo c.b,int c.n,str c.s]]=biC (env++[⟨t.v,c⟩]):=by simp[biC,Bi.cs]
   rw[e]at h1';exact Ae (r:=.tup [lv',boo true]) rfl (K6 (some (env++[⟨t.v,c⟩]))) σ (Tt h1' (fun y o hy=>(hG.step h2') y o (c4.sub y o hy)) _) ⟨by rw[Yq hv h1],rfl⟩
 |some x=>
  obtain⟨σ4,e4,c4⟩:=c3.abs 0 rfl (.cells ((some x).getD .zero).cs);simp only[go_sem,c3.g2,e4,c4.g2];refine Al6 ?_;simp only[go_sem];refine aIf_by (fun h1=>?_) (fun h1=>?_)
  ·simp only[go_sem]
   refine(Q9 env (by omega)).mono ?_;rintro lv σ5 ⟨hL,hG⟩;simp only[go_sem];exact Ae (r:=.tup [lv,boo true]) rfl (K6 (some env)) σ (Tt hL (fun y o hy=>hG y o (c4.sub y o hy)) _) ⟨by rw[Yr hv h1],rfl⟩
  ·simp only[go_sem]
   exact Ae (r:=.tup [Ax,boo false]) rfl (K6 none) σ (Me c4.sub _) ⟨by rw[Ys hv h1],rfl⟩
end
abbrev resN(s:ByteArray)(o:Bool):AV:=.tup [str s,boo o]
def resL(o:Option (List Cn)):AV:=.tup [.sl 3 (cnC (o.getD [])),boo o.isSome]
def Fa.nil:Fa:=⟨emp,emp,emp,[]⟩
def N3(o:Option Fa):AV:=.tup [.agg (o.getD .nil).cs,boo o.isSome]
section
variable{σ:St}{K:AV→Prop}
@[go_sem] theorem Aqz{o:Option (List Cn)}:Ff (resL o) 0 K=K (.sl 3 (cnC (o.getD []))):=by simp[resL,Ff]
@[go_sem] theorem Aq0{o:Option (List Cn)}:Ff (resL o) 1 K=K (boo o.isSome):=by simp[resL,Ff]
@[go_sem] theorem Aqx{o:Option Fa}:Ff (N3 o) 0 K=K (.agg (o.getD .nil).cs):=by simp[N3,Ff]
@[go_sem] theorem Aqy{o:Option Fa}:Ff (N3 o) 1 K=K (boo o.isSome):=by simp[N3,Ff]
theorem Pz{t:Tm}{env:List Bi}(h:Ei t env=none):Ej t env=none:=by unfold Ej;rw[h]
theorem Rw{t:Tm}{env:List Bi}{c:Cn}(h:Ei t env=some c)(h1:c=nmC c.s):Ej t env=some c.s:=by unfold Ej;rw[h];simp only;rw[if_pos h1]
theorem V2{t:Tm}{env:List Bi}{c:Cn}(h:Ei t env=some c)(h1:¬c=nmC c.s):Ej t env=none:=by unfold Ej;rw[h];simp only;rw[if_neg h1]
def Akb(o:Option ByteArray)(r:AV):Prop:=∃s,r=resN s o.isSome∧(∀x,o=some x→s=x)
theorem V3(t:Tm)(env:List Bi)(hl:env.length≤1000000):AT Tryz.prog 209 [.agg t.cs,.sl 4 (biC env)] σ fun r σ'=>Akb (Ej t env) r∧σ'=σ:=by
 refine AT.ob Tryz.func209 rfl ?_;simp only[go_sem];refine Ctx.nil.alloc fun p σ1 c1=>?_;simp only[go_sem,c1.g0];refine(Qq t env (by omega)).p ?_;simp only[go_sem];refine c1.alloc fun q σ2 c2=>?_;cases hv:Ei t env with
 |none=>
  obtain⟨σ3,e3,c3⟩:=c2.abs 0 rfl (.cells Cn.zero.cs);have e0:((none:Option Cn).getD .zero).cs=Cn.zero.cs:=rfl;simp only[go_sem,c2.g1,e0,e3];refine Ag [.rd 0 false,.rd 1 true,.rd 2 false,.rd 3 false,.rd 4 true,.rd 5 false,.rd 6 true,.ef 7 [1,4],.rd 8 false,.rd 9 false,.rd 10 false,.rd 11 false] ?_;simp only[go_sem,c3.g1];exact Ae (r:=.tup [str emp,boo false]) rfl _ σ (c3.view _) ⟨⟨emp,by rw[Pz hv];rfl,fun x hx=>by rw[Pz hv]at hx;cases hx⟩,rfl⟩
 |some c=>
  obtain⟨σ3,e3,c3⟩:=c2.abs 0 rfl (.cells c.cs);have e0:((some c).getD .zero).cs=c.cs:=rfl;simp only[go_sem,c2.g1,e0,e3];refine Ag [.rd 0 false,.rd 1 true,.rd 2 false,.rd 3 false,.rd 4 true,.rd 5 false,.rd 6 true,.ef 7 [1,4],.rd 8 false,.rd 9 false,.rd 10 false,.rd 11 false] ?_;simp only[go_sem,c3.g1];refine(Uc c.s).p ?_;simp only[go_sem,c3.g1];refine Al5 ?_;simp only[go_sem];by_cases h1:c=nmC c.s
  ·exact Ae (r:=.tup [str c.s,boo (decide (c=nmC c.s))]) rfl _ σ (c3.view _) ⟨⟨c.s,by rw[Rw hv h1,decide_eq_true h1];rfl,fun x hx=>by rw[Rw hv h1]at hx;injection hx⟩,rfl⟩
  ·exact Ae (r:=.tup [str c.s,boo (decide (c=nmC c.s))]) rfl _ σ (c3.view _) ⟨⟨c.s,by rw[V2 hv h1,decide_eq_false h1];rfl,fun x hx=>by rw[V2 hv h1]at hx;cases hx⟩,rfl⟩
theorem Acg{l:List Tm}{env:List Bi}{i:Nat}(h:i<l.length):Ed (l.take (i+1)) env=(Ed (l.take i) env).bind fun a=>(Ei l[i] env).map fun c=>a++[c]:=by
 induction l generalizing i with
 |nil=>simp at h
 |cons t l ih=>
  cases i with
  |zero=>
   simp only[Nat.zero_add,List.take_succ_cons,List.take_zero,Ed,List.getElem_cons_zero,Option.bind_some];cases Ei t env<;>rfl
  |succ i=>
   simp only[List.take_succ_cons,Ed,List.getElem_cons_succ];cases Ei t env with
   |none=>rfl
   |some c=>
    have h':i<l.length:=by simpa using h
    simp only;rw[ih h'];cases Ed (l.take i) env with
    |none=>rfl
    |some a=>cases Ei l[i] env<;>rfl
theorem Acf{l:List Tm}{env:List Bi}{i:Nat}(h:i≤l.length)(hn:Ed (l.take i) env=none):Ed l env=none:=by
 induction l generalizing i with
 |nil=>simp[Ed]at hn
 |cons t l ih=>
  cases i with
  |zero=>simp[Ed]at hn
  |succ i=>
   simp only[List.take_succ_cons,Ed]at hn⊢;cases hv:Ei t env with
   |none=>rfl
   |some c=>
    rw[hv]at hn;simp only at hn⊢;rw[Option.map_eq_none_iff]at hn;rw[ih (by simpa using h) hn];rfl
theorem Ach(l:List Tm)(env:List Bi)(hl:l.length≤1000000)(he:env.length≤1000000):AT Tryz.prog 210 [.sl 4 (tmC l),.sl 4 (biC env)] σ fun r σ'=>r=resL (Ed l env)∧σ'=σ:=by
 refine AT.ob Tryz.func210 rfl ?_;simp only[go_sem,Aa];refine⟨fun m fr σ'=>∃(i:Nat) (lv:AV) (a:List Cn),m=l.length-i∧i≤l.length∧LAt 3 σ' lv (cnC a)∧Cz σ σ' lv∧a.length=i∧Ed (l.take i) env=some a∧fr 1= .sl 4 (biC env)∧fr 6=lv∧fr 11= .sl 4 (tmC l)∧fr 12=int l.length∧fr 13=int i,⟨_,0,Ax,[],rfl,by omega,.none,.nil,rfl,rfl,rfl,rfl,rfl,rfl,rfl⟩,?_⟩;rintro m fr σ1 ⟨i,lv,a,rfl,hi,hL,hG,ha,hv,f1,f6,f11,f12,f13⟩;simp only[go_sem,f12,f13];refine aIf_by (fun hlt=>?_) (fun hlt=>?_)
 ·have hil:i<l.length:=by omega
  simp only[go_sem,Aa,f11,f13,J3 hil];refine⟨by omega,Ctx.nil.alloc fun p σ2 c1=>?_⟩;obtain⟨σ3,e3,c2⟩:=c1.abs 0 rfl (.cells l[i].cs);simp only[go_sem,Aa,c1.g0,e3,c2.g0,f1];refine(Qq l[i] env (by omega)).p ?_;simp only[go_sem,Aa];refine c2.alloc fun q σ4 c3=>?_;have hs:=Acg (env:=env) hil;rw[hv,Option.bind_some]at hs;cases hc:Ei l[i] env with
  |none=>
   rw[hc]at hs;obtain⟨σ5,e5,c4⟩:=c3.abs 0 rfl (.cells Cn.zero.cs);have e0:((none:Option Cn).getD .zero).cs=Cn.zero.cs:=rfl;simp only[go_sem,Aa,c3.g1,e0,e5];exact Ae (r:=.tup [Ax,boo false]) rfl (resL none) σ (Me (fun y o hy=>c4.sub _ _ (hG.sub y o hy)) _) ⟨by rw[Acf (by omega) hs],rfl⟩
  |some c=>
   rw[hc]at hs;obtain⟨σ5,e5,c4⟩:=c3.abs 0 rfl (.cells c.cs);have e0:((some c).getD .zero).cs=c.cs:=rfl;simp only[go_sem,Aa,c3.g1,e0,e5,c4.g1,f6];have hL4:LAt 3 σ5 lv (cnC a):=hL.keep fun y o hy _=>c4.sub y o hy;refine As (ys:=[c.cs]) (by rfl) (by decide) (by decide) (by decide) (hL4.app (by rw[Lo,ha];simp only[List.length_cons,List.length_nil];omega) fun lv' σ6 h1 g1=>?_);have e6:cnC a++[c.cs]=cnC (a++[c]):=by simp[cnC]
   rw[e6]at h1;simp only[go_sem,Aa,f1,f11,f12,f13,A2 i (by omega)];have hG':Cz σ σ6 lv':=fun y o hy=>g1 y o (c4.sub _ _ (hG y o hy).1) (hG y o hy).2;exact⟨l.length-(i+1),by omega,i+1,lv',a++[c],rfl,by omega,h1,hG',by simp[ha],hs,rfl,rfl⟩
 ·rw[List.take_of_length_le (by omega)]at hv
  simp only[go_sem,Aa,f6];exact Ae (r:=.tup [lv,boo true]) rfl (resL (some a)) σ (Tt hL hG _) ⟨by rw[hv],rfl⟩
end
section
variable{σ σ1:St}
theorem Se(h:∀x o,σ x=some o→σ1 x=some o)(x:AV):Ey σ1 (.tup [.agg [str emp,str emp,str emp,Ax],x]) σ (.tup [.agg Fa.nil.cs,x]):=by
 have h1:VWs σ1 σ [str emp,str emp,str emp,Ax] Fa.nil.cs:=vws_same (vws_same (vws_same (vws_cons (.nil 3) Cm)));have h2:VWs σ1 σ [.agg [str emp,str emp,str emp,Ax],x] [.agg Fa.nil.cs,x]:=vws_cons (.agg _ _ rfl h1.2) (Ch _);exact view_of (Jg fun y o hy=>.inl (h y o hy)) (.tup _ _ rfl h2.2)
theorem Xq{r:Rl}{env:List Bi}{b a:ByteArray}{l:List Cn}(h1:Ej r.ho env=some b)(h2:Ej (orT r.at' r.ho) env=some a)(h3:Ed r.ar env=some l):If r env=some ⟨a,b,r.nm,l⟩:=by
 unfold If;rw[h1,h2,h3];rfl
theorem Kw{r:Rl}{env:List Bi}(h:Ej r.ho env=none∨Ej (orT r.at' r.ho) env=none∨Ed r.ar env=none):If r env=none:=by
 unfold If;rcases h with h|h|h
 ·rw[h];rfl
 ·rw[h];cases Ej r.ho env<;>rfl
 ·rw[h];cases Ej r.ho env<;>cases Ej (orT r.at' r.ho) env<;>rfl
@[go_sem] theorem Rl.at6(r:Rl):(r.cs.drop 6).take 4=r.at'.cs:=rfl
@[go_sem] theorem Rl.nm4'(r:Rl):r.cs.getD 4 (.v undef)=str r.nm:=rfl
@[go_sem] theorem Rl.ar5'(r:Rl):r.cs.getD 5 (.v undef)= .sl 4 (tmC r.ar):=rfl
theorem Ahq(r:Rl)(env:List Bi)(hl:r.ar.length≤1000000)(he:env.length≤1000000):AT Tryz.prog 164 [.agg r.cs,.sl 4 (biC env)] σ fun v σ'=>v=N3 (If r env)∧σ'=σ:=by
 refine AT.ob Tryz.func164 rfl ?_;simp only[go_sem];refine Ctx.nil.alloc fun p σ1 c1=>?_;simp only[go_sem];refine c1.alloc fun q σ2 c2=>?_;simp only[go_sem,c2.g1];refine(V3 r.ho env he).mono ?_;rintro _ σ2 ⟨⟨s1,rfl,hs1⟩,rfl⟩;simp only[go_sem,c2.g1];refine(Aev r.at' r.ho).p ?_;simp only[go_sem,c2.g1];refine(V3 (orT r.at' r.ho) env he).mono ?_;rintro _ σ2 ⟨⟨s2,rfl,hs2⟩,rfl⟩;simp only[go_sem,c2.g1];refine(Ach r.ar env hl he).p ?_;have fail:∀{fr:Fr} {σ3:St},fr 4=ptr q→fr 5=boo false→(∀y o,σ y=some o→σ3 y=some o)→σ3 q=some (.cells [str emp,str emp,str emp,Ax])→If r env=none→Fp Tryz.prog (fun v σ'=>v=N3 (If r env)∧σ'=σ) [.cell 4 30,.tmp 5] fr σ3:=fun h4 h5 hs hq hn=>
  Gv σ (N3 none) h4 hq tk30 rfl rfl (by rw[h5];exact Se hs _) ⟨by rw[hn],rfl⟩
 cases h1:Ej r.ho env with
 |none=>
  simp only[go_sem,c2.g1];exact fail rfl rfl (c2.upd 0 rfl).sub Ab (Kw (.inl h1))
 |some b=>
  cases h2:Ej (orT r.at' r.ho) env with
  |none=>
   simp only[go_sem,c2.g1];exact fail rfl rfl (c2.upd 0 rfl).sub Ab (Kw (.inr (.inl h2)))
  |some a=>
   cases h3:Ed r.ar env with
   |none=>
    simp only[go_sem,c2.g1];exact fail rfl rfl (c2.upd 0 rfl).sub Ab (Kw (.inr (.inr h3)))
   |some l=>
    obtain rfl:=hs1 b h1;obtain rfl:=hs2 a h2;simp only[go_sem,c2.g1];exact Gv σ (N3 (some ⟨s2,s1,r.nm,l⟩)) rfl Ab tk30 rfl rfl ((c2.upd 0 rfl).view _) ⟨by rw[Xq h1 h2 h3],rfl⟩
end
abbrev clo(f t:Nat):AV:=.v (.func (.func f) #[] #[.pointer (some ⟨t,0,none⟩)])
section
variable{σ:St}{t g:Nat}
theorem Zw(f x:Fa)(sf:f.Sm)(sx:x.Sm)(ht:σ t=some (.cells f.cs)):AT Tryz.prog 111 [.agg x.cs,ptr t] σ fun r σ'=>r=boo (decide (f=x))∧σ'=σ:=by
 refine AT.ob Tryz.func111 rfl ?_;simp only[go_sem];refine Ctx.nil.alloc fun p σ1 c1=>?_;simp only[go_sem,c1.g0,c1.sub _ _ ht];refine(Gx f x sf sx).p ?_;simp only[go_sem];exact Ae (r:=boo _) rfl _ σ (c1.view _) ⟨by rw[decide_eq_decide.2 (Ap.zero f x)],rfl⟩
def IdxS(p:Fa→Bool)(l:List Fa)(k:Int):Prop:=k= -1∧(∀x∈l,p x=false)∨∃i:Nat,k=i∧∃h:i<l.length,p l[i]=true∧∀x∈l.take i,p x=false
theorem M7{lv:AV}(l:List Fa)(p:Fa→Bool)(h:Rd 4 σ lv (faC l))(hl:l.length≤1000000000000)(hC:∀x∈l,AT Tryz.prog g [.agg x.cs,ptr t] σ fun r σ'=>r=boo (p x)∧σ'=σ):AT Tryz.prog 120 [lv,clo g t] σ fun r σ'=>(∃k:Int,r=int k∧IdxS p l k)∧σ'=σ:=by
 refine AT.ob Tryz.func120 rfl ?_;simp only[go_sem,Aa,h.len];refine⟨fun m fr σ'=>∃i:Nat,m=l.length-i∧i≤l.length∧σ'=σ∧(∀x∈l.take i,p x=false)∧fr 0=lv∧fr 1=clo g t∧fr 7=int l.length∧fr 8=int i,⟨_,0,rfl,by omega,rfl,fun x hx=>by simp at hx,rfl,rfl,rfl,rfl⟩,?_⟩;rintro m fr σ ⟨i,rfl,hi,rfl,hp,f0,f1,f7,f8⟩;simp only[go_sem,f7,f8];refine aIf_by (fun hlt=>?_) (fun hlt=>?_)
 ·have hil:i<l.length:=by omega
  simp only[go_sem,Aa,f0,f1,f8];refine h.elem (by omega) (by rw[Am];omega) fun e he=>?_;have eg:(faC l).getD i []=l[i].cs:=Bc hil;simp only[go_sem,Aa];refine he.load (by decide) (by rw[Int.toNat_natCast,eg];exact Nat.le_refl 4) ?_;simp only[go_sem,Aa,eg];refine(hC _ (List.getElem_mem hil)).p ?_;simp only[go_sem,Aa];refine aIf_bool (fun hb=>?_) (fun hb=>?_)
  ·simp only[go_sem,Aa]
   exact Ac (r:=int i) rfl ⟨⟨_,rfl,.inr ⟨i,rfl,hil,hb,hp⟩⟩,rfl⟩
  ·have hp':∀x∈l.take (i+1),p x=false:=fun x hx=>by
    rw[List.take_add_one,List.getElem?_eq_getElem hil]at hx;rcases List.mem_append.1 hx with h|h
    ·exact hp x h
    ·simp at h;subst h;exact hb
   simp only[go_sem,Aa,f0,f1,f7,f8,A2 i (by omega)];refine⟨l.length-(i+1),by omega,i+1,?_⟩
   (and_intros<;>first|assumption|rfl|omega)
 ·rw[List.take_of_length_le (by omega)]at hp
  simp only[go_sem,Aa];exact Ac (r:=int (-1)) rfl ⟨⟨_,rfl,.inl ⟨rfl,hp⟩⟩,rfl⟩
theorem Zt(l:List Fa)(x:Fa)(hl:l.length≤1000000000000)(sl:∀y∈l,y.Sm)(sx:x.Sm):AT Tryz.prog 57 [.sl 4 (faC l),.agg x.cs] σ fun r σ'=>r=boo (decide (x∈l))∧σ'=σ:=by
 refine AT.ob Tryz.func57 rfl ?_;simp only[go_sem];refine Ctx.nil.alloc fun q σ1 c1=>?_;simp only[go_sem];simp only[Dx,B7];simp only[go_sem];have hc:AT Tryz.prog 110 [.sl 4 (faC l),clo 111 q] σ1 fun r σ'=>r=boo (decide (x∈l))∧σ'=σ1:=by
  refine AT.ob Tryz.func110 rfl ?_;simp only[go_sem];refine(M7 l (fun y=>decide (x=y)) .sl hl fun y hy=>Zw x y sx (sl y hy) c1.g0).mono ?_;rintro _ σ1 ⟨⟨k,rfl,hk⟩,rfl⟩;simp only[go_sem];have hd:((0:Int)≤k)↔x∈l:=?_
  ·exact Ac (r:=boo (decide ((0:Int)≤k))) rfl ⟨by rw[decide_eq_decide.2 hd],rfl⟩
  rcases hk with⟨rfl,hk⟩|⟨i,rfl,h1,h2,h3⟩
  ·exact⟨fun h=>absurd h (by omega),fun h=>by have:=hk x h;simp at this⟩
  ·exact⟨fun _=>by rw[of_decide_eq_true h2];exact List.getElem_mem h1,fun _=>by omega⟩
 refine hc.p ?_;simp only[go_sem];exact Ae (r:=boo (decide (x∈l))) rfl _ σ (c1.view _) ⟨rfl,rfl⟩
theorem Abq(l:List Fa)(x:Fa)(hl:l.length≤1000000000000)(sl:∀y∈l,y.Sm)(sx:x.Sm)(ht:σ t=some (.cells [.sl 4 (faC l)])):AT Tryz.prog 128 [.agg x.cs,ptr t] σ fun r σ'=>r=boo (decide (x∈l))∧σ'=σ:=by
 refine AT.ob Tryz.func128 rfl ?_;simp only[go_sem];refine Ctx.nil.alloc fun q σ1 c1=>?_;simp only[go_sem,c1.g0,c1.sub _ _ ht];refine(Zt l x hl sl sx).p ?_;simp only[go_sem];exact Ae (r:=boo (decide (x∈l))) rfl _ σ (c1.view _) ⟨rfl,rfl⟩
theorem Wq{p:Fa→Bool}{l:List Fa}{j:Nat}(h:j<l.length):((l.take (j+1)).filter fun x=>!p x).length=((l.take j).filter fun x=>!p x).length+(if p l[j]then 0 else 1):=by
 rw[List.take_add_one,List.getElem?_eq_getElem h,List.filter_append,List.length_append];cases hb:p l[j]<;>simp[hb]
theorem M4{p:Fa→Bool}{l:List Fa}(h:∀x∈l,p x=false):(l.filter fun x=>!p x)=l:=List.filter_eq_self.2 fun x hx=>by rw[h x hx];rfl
end
theorem Sa{p:Fa→Bool}{l:List Fa}{j:Nat}(h:j<l.length):((l.take (j+1)).filter fun x=>!p x)=((l.take j).filter fun x=>!p x)++(if !p l[j]then[l[j]]else[]):=by
 rw[List.take_add_one,List.getElem?_eq_getElem h,List.filter_append];cases hb:p l[j]<;>simp[hb]
section
variable{σ:St}{t g:Nat}
theorem Y9{β:St}{v:AV}(l:List Fa)(p:Fa→Bool)(h:Ow 4 σ v (faC l))(hl:l.length≤1000000000000)(hs:∀x o,β x=some o→σ x=some o)(hn:∀x,Own v x→β x=none)(hC:∀σ',(∀x o,β x=some o→σ' x=some o)→∀x∈l,AT Tryz.prog g [.agg x.cs,ptr t] σ' fun r σ''=>r=boo (p x)∧σ''=σ'):AT Tryz.prog 63 [v,clo g t] σ fun r σ'=>LAt 4 σ' r (faC (l.filter fun x=>!p x))∧Cz β σ' r:=by
 refine AT.ob Tryz.func63 rfl ?_;simp only[go_sem];refine(M7 l p (.of h.lat) hl (hC σ hs)).mono ?_;rintro _ σ ⟨⟨k,rfl,hk⟩,rfl⟩;rcases hk with⟨rfl,hk⟩|⟨k,rfl,hkl,hk1,hk2⟩
 ·simp only[go_sem]
  refine Ac (r:=v) rfl ⟨by rw[M4 hk];exact h.lat,fun y o hy=>⟨hs y o hy,fun ho=>by rw[hn y ho]at hy;cases hy⟩⟩
 ·rcases h with⟨h0,_⟩|⟨b,cap,rfl,hcap,hb⟩
  ·have:=congrArg List.length h0
   rw[Am,List.length_nil]at this;omega
  ·rw[Am]at hcap hn⊢
   have hbn:β b=none:=hn b (Bg.2 rfl);have d0:=decide_eq_false (show¬(k:Int)= -1 by omega);simp only[go_sem,Aa,d0,A2 k (by omega)];refine⟨fun m fr σ'=>∃(j w:Nat) (es:List (List AV)),m=l.length-j∧j≤l.length∧w<j∧w=((l.take j).filter fun x=>!p x).length∧es.take w=faC ((l.take j).filter fun x=>!p x)∧es.length=l.length∧(∀i,i<l.length→(es.getD i []).length=4)∧(∀i (h:i<l.length),j≤i→es.getD i []=l[i].cs)∧(∀x o,β x=some o→σ' x=some o)∧σ' b=some (.rows 4 es false cap)∧fr 0=slv b l.length cap∧fr 1=clo g t∧fr 5=int w∧fr 6=int j,⟨_,k+1,k,faC l,rfl,by omega,by omega,?_,?_,Am l,fun i hi=>by rw[Bc hi];rfl,fun i hi _=>Bc hi,hs,hb,rfl,rfl,rfl,rfl⟩,?_⟩
   ·rw[Wq hkl,M4 hk2,hk1,List.length_take];simp;omega
   ·rw[Sa hkl,M4 hk2,hk1];simp[faC,List.map_take]
   clear hs hb hk1 hk2;rintro m fr σ1 ⟨j,w,es,rfl,hj,hw,hwc,hwt,he1,he2,he3,hs1,hb1,f0,f1,f5,f6⟩;simp only[go_sem,f0,f6];refine aIf_by (fun hlt=>?_) (fun hlt=>?_)
   ·have hjl:j<l.length:=by omega
    have eg:=he3 j hjl (Nat.le_refl _);have hcnt:=Wq (p:=p) hjl;have hflt:=Sa (p:=p) hjl;rw[←hwc]at hcnt;simp only[go_sem,Aa,f0,f6,hb1,eg,he1];refine⟨by omega,by omega,Ctx.nil.alloc fun q σ2 c2=>?_⟩;obtain⟨σ3,e3,c3⟩:=c2.abs 0 rfl (.cells l[j].cs);have hb3:=c3.sub _ _ hb1;have hs3:∀x o,β x=some o→σ3 x=some o:=fun x o hx=>c3.sub _ _ (hs1 x o hx);simp only[go_sem,Aa,c2.g0,e3,f1,c3.g0];refine(hC σ3 hs3 _ (List.getElem_mem hjl)).p ?_;have hp0:=c3.g0;simp only at hp0;have hb4:∀{τ:St} {o:Bn},τ=σ3.set b o→∀x o,β x=some o→τ x=some o:=fun e x o hx=>by
     rw[e,Ad (fun e=>by rw[e,hbn]at hx;cases hx)];exact hs3 x o hx
    clear e3 c3 c2;cases hpj:p l[j]with
    |true=>
     rw[hpj]at hcnt;simp only[reduceIte,Nat.add_zero]at hcnt;have hcnt':=hcnt.symm;rw[hpj]at hflt;simp only[Bool.not_true,Bool.false_eq_true,reduceIte,List.append_nil]at hflt;rw[←hflt]at hwt;have he3':∀i (h:i<l.length),j+1≤i→es.getD i []=l[i].cs:=fun i h h2=>he3 i h (by omega);simp only[go_sem,Aa,Bool.not_true,f0,f1,f5,f6,A2 j (by omega)];refine⟨l.length-(j+1),by omega,j+1,w,es,rfl,by omega,by omega,hcnt',hwt,he1,he2,he3',hs3,hb3,?_⟩
     (and_intros<;>first|assumption|rfl|omega)
    |false=>
     rw[hpj]at hcnt;simp only[Bool.false_eq_true,reduceIte]at hcnt;have hcnt':=hcnt.symm;rw[hpj]at hflt;simp only[Bool.not_false,reduceIte]at hflt;have hwt':(es.set w l[j].cs).take (w+1)=faC ((l.take (j+1)).filter fun x=>!p x):=by
      rw[hflt,List.take_add_one,List.take_set_of_le (Nat.le_refl _),hwt,List.getElem?_set_self (by omega)];simp[faC]
     have dz:List.drop 4 (es.getD w [])=[]:=List.drop_eq_nil_of_le (by rw[he2 w (by omega)];omega);have hlen:(es.set w l[j].cs).length=l.length:=by simp;omega
     have he2':∀i,i<l.length→((es.set w l[j].cs).getD i []).length=4:=fun i hi=>by
      simp only[List.getD_eq_getElem?_getD,List.getElem?_set];split
      ·rw[if_pos (by omega)];rfl
      ·have:=he2 i hi
       rwa[List.getD_eq_getElem?_getD]at this
     have he3':∀i (h:i<l.length),j+1≤i→(es.set w l[j].cs).getD i []=l[i].cs:=fun i h h2=>by
      simp only[List.getD_eq_getElem?_getD];rw[List.getElem?_set_ne (by omega)];have:=he3 i h (by omega);rwa[List.getD_eq_getElem?_getD]at this
     simp only[go_sem,Aa,Bool.not_false,f0,f1,f5,f6,hp0,hb3,he1,dz,List.append_nil,A2 j (by omega),A2 w (by omega)];refine⟨by omega,by omega,l.length-(j+1),by omega,j+1,w+1,es.set w l[j].cs,rfl,by omega,by omega,hcnt',hwt',hlen,he2',he3',hb4 rfl,rfl,?_⟩
     (and_intros<;>first|assumption|rfl|omega)
   ·have hjl:j=l.length:=by omega
    subst hjl;rw[List.take_of_length_le (Nat.le_refl _)]at hwc hwt;simp only[go_sem,Aa,f0,f5];refine Ba (p:=w*4) (by omega) (by omega) hcap (by omega) ?_;simp only[go_sem,Aa];refine Hg (l:=w) (by omega) hb1 (by decide) (by omega) (by omega) (by decide) ?_;simp only[go_sem,Aa,f0,f5];refine Ia (by omega) hcap ?_;simp only[go_sem,Aa];refine Ae (r:=slv b w cap) rfl _ _ (Ht (m:=w) _ Ab) ?_;rw[B5];have hfl:(faC (l.filter fun x=>!p x)).length=w:=by rw[Am,hwc]
    refine⟨.inr (.inr ⟨b,cap,by rw[hfl],by rw[hfl];omega,?_⟩),fun y o hy=>⟨?_,fun ho=>?_⟩⟩
    ·rw[Ab,List.append_assoc,List.take_append_of_le_length (by rw[List.length_take,he1];omega),List.take_take,Nat.min_self,hwt]
    ·rw[Ad (fun e=>by rw[e,hbn]at hy;cases hy)];exact hs1 y o hy
    ·rw[Bg.1 ho,hbn]at hy;cases hy
theorem Po{lv:AV}(l:List Fa)(x:Fa)(h:Rd 4 σ lv (faC l))(hl:l.length≤1000000000000)(sl:∀y∈l,y.Sm)(sx:x.Sm):AT Tryz.prog 57 [lv,.agg x.cs] σ fun r σ'=>r=boo (decide (x∈l))∧σ'=σ:=by
 refine AT.ob Tryz.func57 rfl ?_;simp only[go_sem];refine Ctx.nil.alloc fun q σ1 c1=>?_;have h1:=h.keep c1.sub;simp only[go_sem];simp only[Dx,B7];simp only[go_sem];have hc:AT Tryz.prog 110 [lv,clo 111 q] σ1 fun r σ'=>r=boo (decide (x∈l))∧σ'=σ1:=by
  refine AT.ob Tryz.func110 rfl ?_;simp only[go_sem];refine(M7 l (fun y=>decide (x=y)) h1 hl fun y hy=>Zw x y sx (sl y hy) c1.g0).mono ?_;rintro _ σ1 ⟨⟨k,rfl,hk⟩,rfl⟩;simp only[go_sem];have hd:((0:Int)≤k)↔x∈l:=?_
  ·exact Ac (r:=boo (decide ((0:Int)≤k))) rfl ⟨by rw[decide_eq_decide.2 hd],rfl⟩
  rcases hk with⟨rfl,hk⟩|⟨i,rfl,h1,h2,h3⟩
  ·exact⟨fun h=>absurd h (by omega),fun h=>by have:=hk x h;simp at this⟩
  ·exact⟨fun _=>by rw[of_decide_eq_true h2];exact List.getElem_mem h1,fun _=>by omega⟩
 refine hc.p ?_;simp only[go_sem];exact Ae (r:=boo (decide (x∈l))) rfl _ σ (c1.view _) ⟨rfl,rfl⟩
theorem Rt{v0:AV}(a b:List Fa)(h0:Rd 4 σ v0 (faC a))(ha:a.length≤1000000000000)(sa:∀y∈a,y.Sm)(hb:b.length≤1000000000000)(sb:∀y∈b,y.Sm):AT Tryz.prog 74 [v0,.sl 4 (faC b)] σ fun r σ'=>LAt 4 σ' r (faC ((Cc A4 [] a).filter fun x=>!decide (x∈b)))∧Cz σ σ' r:=by
 refine AT.ob Tryz.func74 rfl ?_;have hsi:∀f∈Cc A4 [] a,f.Sm:=fun f hf=>by
  rcases(C7 Ap).1 hf with h|h
  ·exact sa f h
  ·cases h
 have hli:=Cu (c:=A4) (s:=[]) (l:=a);simp only[List.length_nil]at hli;simp only[go_sem];refine Ctx.nil.alloc fun q σ1 c1=>?_;simp only[go_sem];refine(Ib a (h0.keep c1.sub) ha sa).mono ?_;rintro v σ2 ⟨h1,h2,h3⟩;simp only[go_sem];simp only[Dx,B7];simp only[go_sem];refine(Y9 (β:=σ1) (Cc A4 [] a) (fun x=>decide (x∈b)) h1 (by omega) h2 h3 fun σ' hs x hx=>Abq b x (by omega) sb (hsi x hx) (hs _ _ c1.g0)).mono ?_;rintro r σ3 ⟨k1,k3⟩;simp only[go_sem];exact Ac (r:=r) rfl ⟨k1,fun y o hy=>k3 y o (c1.sub y o hy)⟩
end
def Q4(s:ByteArray):Bool:=decide (1≤(s.size:Int))&&decide ((s.size:Int)≤32)
def Ly(c:Cn):Bool:=if c.b=true then decide (c.s=emp)else decide (c.n=0)&&Q4 c.s
def okF(f:Fa):Bool:=Q4 f.at'&&Q4 f.by'&&Q4 f.pr&&decide ((f.ar.length:Int)≤48)&&f.ar.all Ly
def okE(f:Fa):Int:=if okF f=true then 0 else 40
theorem X0{f:Fa}(h:okF f=true):f.Sm:=by
 unfold okF at h;simp only[Bool.and_eq_true,decide_eq_true_eq]at h;unfold Fa.Sm;omega
section
variable{σ:St}
theorem J2(s:ByteArray):AT Tryz.prog 108 [str s] σ fun r σ'=>r=boo (Q4 s)∧σ'=σ:=by
 refine AT.ob Tryz.func108 rfl ?_;by_cases h1:1≤(s.size:Int)
 ·have d1:=decide_eq_true h1
  simp only[go_sem,d1];exact Ac (r:=boo _) rfl ⟨by unfold Q4;rw[d1,Bool.true_and],rfl⟩
 ·have d1:=decide_eq_false h1
  simp only[go_sem,d1];exact Ac (r:=boo false) rfl ⟨by unfold Q4;rw[d1,Bool.false_and],rfl⟩
theorem Ahp(c:Cn):AT Tryz.prog 109 [.agg c.cs] σ fun r σ'=>r=boo (Ly c)∧σ'=σ:=by
 refine AT.ob Tryz.func109 rfl ?_;simp only[go_sem];refine Ctx.nil.alloc fun p σ1 c1=>?_;have hp:=c1.g0;have hs:=c1.sub;clear c1;simp only[go_sem,hp];refine aIf_bool (fun hb=>?_) (fun hb=>?_)
 ·simp only[go_sem,hp]
  exact Ae (r:=boo _) rfl _ σ (Ao hs) ⟨by unfold Ly;rw[if_pos hb],rfl⟩
 ·have hb':¬c.b=true:=by rw[hb];simp
  by_cases h1:c.n=0
  ·have d1:=decide_eq_true h1
   simp only[go_sem,hp,d1];refine(J2 c.s).p ?_;simp only[go_sem];exact Ae (r:=boo _) rfl _ σ (Ao hs) ⟨by unfold Ly;rw[if_neg hb',d1,Bool.true_and],rfl⟩
  ·have d1:=decide_eq_false h1
   simp only[go_sem,hp,d1];exact Ae (r:=boo false) rfl _ σ (Ao hs) ⟨by unfold Ly;rw[if_neg hb',d1,Bool.false_and],rfl⟩
theorem O5(f:Fa):AT Tryz.prog 56 [.agg f.cs] σ fun r σ'=>r=int (okE f)∧σ'=σ:=by
 refine AT.ob Tryz.func56 rfl ?_;simp only[go_sem];refine Ctx.nil.alloc fun p σ1 c1=>?_;have hp:=c1.g0;have hs:=c1.sub;clear c1;have no:okF f=false→∀{fr:Fr} {σ':St},(∀y o,σ y=some o→σ' y=some o)→Bj Tryz.prog fr σ' (Tryz.f56).results.toList=some (int 40)→Fp Tryz.prog (fun r σ'=>r=int (okE f)∧σ'=σ) (Tryz.f56).results.toList fr σ':=fun h _ _ h2 hr=>
  Ae hr _ σ (Ao h2) ⟨by unfold okE;rw[h];rfl,rfl⟩
 simp only[go_sem,hp];refine(J2 f.at').p ?_;cases h1:Q4 f.at' with
 |false=>
  simp only[go_sem,Bool.not_false];exact no (by unfold okF;rw[h1];rfl) hs rfl
 |true=>
 simp only[go_sem,Bool.not_true,hp];refine(J2 f.by').p ?_;cases h2:Q4 f.by' with
 |false=>
  simp only[go_sem,Bool.not_false];exact no (by unfold okF;rw[h1,h2];rfl) hs rfl
 |true=>
 simp only[go_sem,Bool.not_true,hp];refine(J2 f.pr).p ?_;cases h3:Q4 f.pr with
 |false=>
  simp only[go_sem,Bool.not_false];exact no (by unfold okF;rw[h1,h2,h3];rfl) hs rfl
 |true=>
 by_cases h4:(f.ar.length:Int)≤48
 case neg=>
  have d4:=decide_eq_true (show 48<(f.ar.length:Int) by omega);simp only[go_sem,Bool.not_true,hp,d4];exact no (by unfold okF;rw[h1,h2,h3,decide_eq_false h4];rfl) hs rfl
 case pos=>
 have d4:=decide_eq_false (show¬48<(f.ar.length:Int) by omega);have hok:okF f=f.ar.all Ly:=by unfold okF;rw[h1,h2,h3,decide_eq_true h4];rfl
 have al:=Lo f.ar;simp only[go_sem,Aa,Bool.not_true,hp,d4];refine⟨fun m fr σ'=>∃i:Nat,m=f.ar.length-i∧i≤f.ar.length∧(f.ar.take i).all Ly=true∧(∀y o,σ y=some o→σ' y=some o)∧fr 28= .sl 3 (cnC f.ar)∧fr 29=int f.ar.length∧fr 30=int i,⟨_,0,rfl,by omega,rfl,hs,rfl,rfl,rfl⟩,?_⟩;clear hp hs;rintro m fr σ1 ⟨i,rfl,hi,ha,hs,f28,f29,f30⟩;simp only[go_sem,f29,f30];refine aIf_by (fun hlt=>?_) (fun hlt=>?_)
 ·have hil:i<f.ar.length:=by omega
  simp only[go_sem,Aa,f28,f30,N8 hil,al];refine⟨by omega,Ctx.nil.alloc fun t σ4 c4=>?_⟩;obtain⟨σ5,e5,c5⟩:=c4.abs 0 rfl (.cells f.ar[i].cs);have ht:=c5.g0;have hs5:∀y o,σ y=some o→σ5 y=some o:=fun y o hy=>c5.sub _ _ (hs y o hy);simp only at ht;simp only[go_sem,Aa,c4.g0,e5,ht];clear e5 c5 c4;refine(Ahp f.ar[i]).p ?_;cases hg:Ly f.ar[i]with
  |false=>
   simp only[go_sem,Aa,Bool.not_false];refine no ?_ hs5 rfl;rw[hok,List.all_eq_false];exact⟨_,List.getElem_mem hil,by rw[hg];simp⟩
  |true=>
   have ha':(f.ar.take (i+1)).all Ly=true:=by
    rw[List.take_add_one,List.getElem?_eq_getElem hil,List.all_append,ha];simp[hg]
   simp only[go_sem,Aa,Bool.not_true,f28,f29,f30,A2 i (by omega)];refine⟨f.ar.length-(i+1),by omega,i+1,?_⟩
   (and_intros<;>first|assumption|rfl|omega)
 ·rw[List.take_of_length_le (by omega)]at ha
  simp only[go_sem,Aa];exact Ae rfl _ σ (Ao hs) ⟨by unfold okE;rw[hok,ha];rfl,rfl⟩
end
end Go.Proofs.YtmifmncabejffaaGreat
theorem Go.Proofs.YtmifmncabejffaaGreat.rqq14{p:Prop}(h:p:=by
 rw[Ai (x:=(i:Int)+j) (by omega)];have e1:IntKind.u64.wrap ((i:Int)+j)=(i:Int)+j:=by
  simp[IntKind.wrap,IntKind.signed,IntKind.bits];omega
 have e2:(2:Int)^min 1 64=2:=rfl;rw[e1,e2,show((i:Int)+j).fdiv 2=(((i+j)/2:Nat):Int)from ?_]
 ·exact Ai (by omega)
 ·rw[Int.fdiv_eq_ediv_of_nonneg _ (by omega)]
  omega):p:=h
namespace Go.Proofs.YtmifmncabejffaaGreat
open Go Go.Av
namespace BF
section
variable{σ:St}
def Found(l:List Fa)(f:Fa)(r:AV):Prop:=∃k:Nat,r= .tup [int k,boo (decide (f∈l))]∧k≤l.length∧(∀i (hi:i<k) (hl:i<l.length),A4 l[i] f<0)∧∀hk:k<l.length,¬A4 l[k] f<0
theorem I1{l:List Fa}{f:Fa}{k:Nat}(hr:Cp A4 l)(hk:k≤l.length)(h1:∀h:0<k,A4 (l[k-1]'(by omega)) f<0)(h2:∀h:k<l.length,¬A4 l[k] f<0){b:Bool}(hb:b=true↔∃h:k<l.length,A4 l[k] f=0):Found l f (.tup [int k,boo b]):=by
 have hr':=List.pairwise_iff_getElem.1 hr;have a1:∀i (hi:i<k) (hl:i<l.length),A4 l[i] f<0:=fun i hi hl=>by
  by_cases e:i=k-1
  ·subst e;exact h1 (by omega)
  ·exact Ap.trans _ _ _ (hr' i (k-1) hl (by omega) (by omega)) (h1 (by omega))
 refine⟨k,?_,hk,a1,h2⟩;have:b=decide (f∈l):=by
  rw[Bool.eq_iff_iff,hb,decide_eq_true_iff];constructor
  ·rintro⟨h,e⟩
   rw[←(Ap.zero _ _).1 e];exact List.getElem_mem h
  ·intro hm
   obtain⟨i,hi,e⟩:=List.getElem_of_mem hm;have hik:¬i<k:=fun h=>by
    have:=a1 i h hi;rw[e,Ap.self]at this;omega
   have hkl:k<l.length:=by omega
   by_cases e2:i=k
   ·subst e2
    exact⟨hi,by rw[e];exact Ap.self f⟩
   ·have:=hr' k i hkl hi (by omega)
    rw[e]at this;exact absurd this (h2 hkl)
 rw[this]
theorem Xw{i j:Nat}(h:i+j<9223372036854775807):IntKind.i64.wrap ((IntKind.u64.wrap (IntKind.i64.wrap ((i:Int)+j))).fdiv (2^min 1 64))=(((i+j)/2:Nat):Int):=by
 exact rqq14
theorem bsearch_at{lv:AV}(l:List Fa)(f:Fa)(hl:l.length≤4000000000000)(hs:∀y∈l,y.Sm)(hf:f.Sm)(hr:Cp A4 l)(h:Rd 4 σ lv (faC l)):AT Tryz.prog 177 [lv,.agg f.cs,fnv 112] σ fun r σ'=>Found l f r∧σ'=σ:=by
 refine AT.ob Tryz.func177 rfl ?_;simp only[go_sem];refine Ctx.nil.alloc fun p σ1 c1=>?_;have hp:=c1.g0;have hsub:=c1.sub;have h1:=h.keep hsub;clear c1;simp only[go_sem,Aa,h1.len,Am];refine⟨fun m fr σ'=>∃i j:Nat,m=j-i∧i≤j∧j≤l.length∧(∀h:0<i,∀h2:i-1<l.length,A4 l[i-1] f<0)∧(∀h:j<l.length,¬A4 l[j] f<0)∧σ'=σ1∧fr 0=lv∧fr 2=fnv 112∧fr 4=ptr p∧fr 8=int l.length∧fr 9=int i∧fr 10=int j,⟨_,0,l.length,rfl,by omega,by omega,fun h=>by omega,fun h=>by omega,rfl,rfl,rfl,rfl,rfl,rfl,rfl⟩,?_⟩;rintro m fr σ1 ⟨i,j,rfl,hij,hjl,hI,hJ,rfl,f0,f2,f4,f8,f9,f10⟩;simp only[go_sem,f9,f10];refine aIf_by (fun hlt=>?_) (fun hlt=>?_)
 ·have hij':i<j:=by omega
  have hm:=Xw (i:=i) (j:=j) (by omega);obtain⟨q,hq⟩:∃q,q=(i+j)/2:=⟨_,rfl⟩;rw[←hq]at hm;have hql:q<l.length:=by omega
  simp only[go_sem,Aa,f9,f10,hm];refine Ag [.rd 0 false,.rd 1 false,.rd 2 false,.rd 3 false,.rd 4 true,.rd 5 true,.ef 6 [],.rd 7 false] ?_;simp only[go_sem,Aa,f0,f2,f4];refine h1.elem (by omega) (by rw[Am];omega) fun e he=>?_;simp only[go_sem,Aa];refine he.load (by decide) (by rw[Int.toNat_natCast,Bc hql];exact Nat.le_refl _) ?_;simp only[go_sem,Aa,Bc hql,hp,f4];refine(Gx l[q] f (hs _ (List.getElem_mem hql)) hf).p ?_;simp only[go_sem,Aa];refine aIf_by (fun hc=>?_) (fun hc=>?_)
  ·simp only[go_sem,Aa,f0,f2,f4,f8,f9,f10,A2 q (by omega)]
   refine⟨j-(q+1),by omega,q+1,j,rfl,by omega,hjl,fun _ h2=>?_,hJ,?_⟩
   ·exact hc
   ·(and_intros<;>first|assumption|rfl|omega)
  ·simp only[go_sem,Aa,f0,f2,f4,f8,f9,f10]
   refine⟨q-i,by omega,i,q,rfl,by omega,by omega,hI,fun _=>hc,?_⟩
   (and_intros<;>first|assumption|rfl|omega)
 ·have e:i=j:=by omega
  subst e;simp only[go_sem,Aa,f8,f9];refine Ag [.rd 0 false,.rd 1 false,.rd 2 false,.rd 3 false,.rd 4 false,.rd 5 false,.rd 6 false,.rd 7 false,.rd 8 false,.rd 9 true,.rd 10 true,.ef 11 [],.rd 12 false,.rd 13 false,.rd 14 false,.rd 15 false] ?_;by_cases hil:i<l.length
  ·have d1:=decide_eq_true (show(i:Int)<l.length by omega)
   simp only[go_sem,Aa,f0,f2,f4,f8,f9,d1];refine h1.elem (by omega) (by rw[Am];omega) fun e he=>?_;simp only[go_sem,Aa];refine he.load (by decide) (by rw[Int.toNat_natCast,Bc hil];exact Nat.le_refl _) ?_;simp only[go_sem,Aa,Bc hil,hp,f4];refine(Gx l[i] f (hs _ (List.getElem_mem hil)) hf).p ?_;simp only[go_sem,Aa,f9];refine Ae (r:=.tup [int i,boo (decide (A4 l[i] f=0))]) rfl _ σ (Ao hsub) ⟨I1 hr hjl (fun h=>hI h (by omega)) hJ ?_,rfl⟩;rw[decide_eq_true_iff];exact⟨fun h=>⟨hil,h⟩,fun⟨_,h⟩=>h⟩
  ·have d1:=decide_eq_false (show¬(i:Int)<l.length by omega)
   simp only[go_sem,Aa,f8,f9,d1];refine Ae (r:=.tup [int i,boo false]) rfl _ σ (Ao hsub) ⟨I1 hr hjl (fun h=>hI h (by omega)) hJ ?_,rfl⟩;exact⟨fun h=>(by cases h),fun⟨h,_⟩=>absurd h hil⟩
theorem erase_at{T:List Fa}{k:Nat}(hr:Cp A4 T){f:Fa}(hk:k≤T.length)(h1:∀i (hi:i<k) (hl:i<T.length),A4 T[i] f<0)(h2:∀hk:k<T.length,¬A4 T[k] f<0)(hm:f∈T):∃h:k<T.length,T[k]=f∧T.take k++T.drop (k+1)=T.filter fun x=>!decide (x=f):=by
 obtain⟨i,hi,e⟩:=List.getElem_of_mem hm;have hik:¬i<k:=fun h=>by
  have:=h1 i h hi;rw[e,Ap.self]at this;omega
 have hkl:k<T.length:=by omega
 have hr':=List.pairwise_iff_getElem.1 hr;have hki:k=i:=by
  rcases Nat.lt_or_ge k i with h|h
  ·have:=hr' k i hkl hi h
   rw[e]at this;exact absurd this (h2 hkl)
  ·omega
 subst hki;refine⟨hkl,e,?_⟩;have hne:∀j (hj:j<T.length),j≠k→T[j]≠f:=fun j hj hjk hf=>by
  rcases Nat.lt_or_gt_of_ne hjk with h|h
  ·have:=hr' j k hj hkl h
   rw[e,hf,Ap.self]at this;omega
  ·have:=hr' k j hkl hj h
   rw[e,hf,Ap.self]at this;omega
 conv=>rhs;rw[←List.take_append_drop k T]
 rw[List.filter_append,List.drop_eq_getElem_cons hkl,List.filter_cons_of_neg (by simp[e])]
 congr 1
 ·refine(List.filter_eq_self.2 fun x hx=>?_).symm
  obtain⟨j,hj,rfl⟩:=List.getElem_of_mem hx;rw[List.length_take]at hj;rw[List.getElem_take];simpa using hne j (by omega) (by omega)
 ·refine(List.filter_eq_self.2 fun x hx=>?_).symm
  obtain⟨j,hj,rfl⟩:=List.getElem_of_mem hx;rw[List.length_drop]at hj;rw[List.getElem_drop];simpa using hne (k+1+j) (by omega) (by omega)
end
end BF
namespace BF
section
variable{σ:St}
theorem clone_at(l:List Fa)(hl:l.length≤1000000000000):AT Tryz.prog 133 [.sl 4 (faC l)] σ fun r σ'=>Ow 4 σ' r (faC l)∧Cz σ σ' r:=by
 refine AT.ob Tryz.func133 rfl ?_;simp only[go_sem];by_cases he:faC l=[]
 ·refine⟨fun h=>absurd he h,fun _ b=>?_⟩
  refine aIf_bool (fun _=>?_) (fun _=>?_)
  ·simp only[go_sem]
   exact Ac (r:=Ax) rfl ⟨.inl ⟨he,.inl rfl⟩,.nil⟩
  ·simp only[go_sem]
   refine As (ys:=faC l) (by simp[src]) (by decide) (by decide) (by decide) ?_;rw[he];refine⟨rfl,fun _=>?_,fun h=>absurd rfl h⟩;simp only[go_sem];exact Ac (r:=.fsl 4 []) rfl ⟨.inl ⟨rfl,.inr rfl⟩,fun y p hy=>⟨hy,A3⟩⟩
 ·refine⟨fun _=>?_,fun h=>absurd h he⟩
  refine As (ys:=faC l) (by simp[src]) (by decide) (by decide) (by decide) (Ow.of_app .full he (by rw[Am];simp only[List.length_nil];omega) fun lv σ1 h1 h2 _=>?_);simp only[go_sem];exact Ac (r:=lv) rfl ⟨h1,fun y p hy=>h2 y p hy A3⟩
def Ug(σ:St)(v:AV)(es:List (List AV))(r:AV)(σ':St):Prop:=Ow 4 σ' r es∧∀y o,σ y=some o→¬Own v y→σ' y=some o∧¬Own r y
theorem insert_at{v:AV}(l:List Fa)(f:Fa)(i:Nat)(hi:i≤l.length)(hl:l.length≤1000000000000)(h:Ow 4 σ v (faC l)):AT Tryz.prog 139 [v,int i,.fsl 4 [f.cs]] σ (Ug σ v (faC (l.take i++f::l.drop i))):=by
 refine AT.ob Tryz.func139 rfl ?_;simp only[go_sem];refine h.lat.from (by decide) (by omega) (by rw[Am];omega) fun _ _=>?_;have d1:decide ((1:Int)=0)=false:=rfl;simp only[go_sem,h.lat.len,Am];refine aIf_by (fun hin=>?_) (fun hin=>?_)
 ·have e:i=l.length:=by omega
  subst e;simp only[go_sem];refine As (ys:=[f.cs]) (by rfl) (by decide) (by decide) (by decide) (Ow.of_app h.lat (by simp) (by rw[Am];simp only[List.length_cons,List.length_nil];omega) fun r σ1 h1 h2 _=>?_);simp only[go_sem];refine Ac (r:=r) rfl ⟨?_,h2⟩;rw[show l.take l.length++f::l.drop l.length=l++[f] by simp];rw[show faC l++[f.cs]=faC (l++[f]) by simp[faC]]at h1;exact h1
 ·have hil:i<l.length:=by omega
  rcases h with⟨h0,_⟩|⟨b,cap,rfl,hcap,hb⟩
  ·have:=congrArg List.length h0
   rw[Am,List.length_nil]at this;omega
  have fl:=Am l;rw[fl]at hcap;obtain⟨A,y,B,hA,hL⟩:∃(A:List (List AV)) (y:List AV) (B:List (List AV)),A.length=i∧faC l=A++y::B:=by
   refine⟨(faC l).take i,(faC l)[i]'(by omega),(faC l).drop (i+1),by rw[List.length_take];omega,?_⟩;rw[←List.drop_eq_getElem_cons,List.take_append_drop]
  have hB:B.length=l.length-(i+1):=by
   have:=congrArg List.length hL;rw[fl,List.length_append,List.length_cons]at this;omega
  have hdr:(faC l).drop i=y::B:=by rw[hL,List.drop_append,hA,List.drop_of_length_le (by omega)];simp
  have htk:(faC l).take i=A:=by rw[hL,List.take_append,List.take_of_length_le (by omega),hA];simp
  have fin:A++f.cs::y::B=faC (l.take i++f::l.drop i):=by
   rw[←hdr,←htk];simp[faC,List.map_take,List.map_drop]
  have finl:(faC (l.take i++f::l.drop i)).length=l.length+1:=by simp[faC];omega
  have w1:IntKind.i64.wrap ((l.length:Int)+1)=((l.length+1:Nat):Int):=Kz (by omega);have w2:IntKind.i64.wrap (((l.length+1:Nat):Int)-i)=((l.length+1-i:Nat):Int):=by rw[Ai (by omega)];omega
  have w3:IntKind.i64.wrap ((i:Int)+1)=((i+1:Nat):Int):=Kz (by omega);simp only[go_sem,w1];refine aIf_by (fun hc=>?_) (fun hc=>?_)
  ·
   have hsz:4≤1000:=by decide
   simp only[go_sem,w1,w2];refine D3 (h:=i) rfl (by omega) ?_;simp only[go_sem,w1,w2];refine Uq rfl hb (by rw[fl];omega) (by decide) (by decide) (by decide) (by omega) (by omega) (by omega) fun b' c' hb' hc'=>?_;obtain⟨z,hz⟩:∃z:List AV,z=[Value.string ⟨#[]⟩,.string ⟨#[]⟩,.string ⟨#[]⟩,.slice none 0 0].map AV.v:=⟨_,rfl⟩;have hbb:b≠b':=fun e=>by rw[←e,hb]at hb';cases hb'
   have ez:i+(l.length+1-i)=l.length+1:=by omega
   rw[ez]at hc'⊢;have e0:(faC l).take i++List.replicate (l.length+1-i) z=A++z::List.replicate (l.length-i) z:=by
    rw[htk,show l.length+1-i=(l.length-i)+1 by omega,List.replicate_succ]
   rw[←hz,e0];have el:(A++z::List.replicate (l.length-i) z).length=l.length+1:=by simp;omega
   simp only[go_sem];refine Ba (p:=i*4) rfl (by omega) (by omega) (by omega) ?_;simp only[go_sem];refine Fb (m:=i) (ys:=[f.cs]) rfl Ab (by decide) (by simp[cut];omega) (by rw[el];omega) (by simp only[List.length_cons,List.length_nil];omega) ?_;rw[show List.take i (A++z::List.replicate (l.length-i) z)++[f.cs]++List.drop (i+ [f.cs].length) (A++z::List.replicate (l.length-i) z)=A++f.cs::List.replicate (l.length-i) z from spl1 hA,B5];have el2:(A++f.cs::List.replicate (l.length-i) z).length=l.length+1:=by simp;omega
   obtain⟨σ2,e2⟩:∃σ2,σ2=σ.set b' (.rows 4 (A++f.cs::List.replicate (l.length-i) z) false c'):=⟨_,rfl⟩;have g1:σ2 b'=some (.rows 4 (A++f.cs::List.replicate (l.length-i) z) false c'):=by rw[e2];exact Ab
   have g2:σ2 b=some (.rows 4 (faC l) false cap):=by rw[e2,Ad hbb];exact hb
   have g3:∀y o,σ y=some o→σ2 y=some o∧y≠b':=fun y o hy=>by
    have:y≠b':=fun e=>by rw[e,hb']at hy;cases hy
    exact⟨by rw[e2,Ad this];exact hy,this⟩
   rw[←e2];clear e2 el;simp only[go_sem];refine Ag [.rd 0 false,.rd 1 false,.rd 2 false,.rd 3 false,.rd 4 true,.rd 5 false,.rd 6 false,.rd 7 true,.ef 8 []] ?_;simp only[go_sem,w3];refine Cy (l:=i+1) (p:=(i+1)*4) rfl rfl (by omega) (by omega) (by omega) ?_;simp only[go_sem];refine Ba (p:=i*4) rfl (by omega) (by omega) (by omega) ?_;simp only[go_sem];refine Fb (m:=i+1) (ys:=y::B) rfl g1 (by decide) ?_ (by omega) (by simp only[List.length_cons];omega) ?_
   ·rw[Oa (m:=i) rfl (by decide) g2 (by rw[fl];omega)]
    rw[List.take_of_length_le (by rw[List.length_drop,fl];omega),hdr]
   simp only[go_sem];refine Ac (r:=slv b' (l.length+1) c') rfl ⟨.inr ⟨b',c',by rw[finl],by rw[finl];omega,?_⟩,fun y o hy hn=>?_⟩
   ·rw[Ab]
    have:=spl2 (x:=f.cs) (B:=y::B) (R:=List.replicate (l.length-i) z) hA (by simp;omega);rw[List.length_cons,fin]at this;rw[this]
   ·obtain⟨h1,h2⟩:=g3 y o hy
    exact⟨by rw[Ad h2];exact h1,fun ho=>h2 (Bg.1 ho)⟩
  ·simp only[go_sem,w1]
   refine D3 (h:=l.length+1) rfl (by omega) ?_;simp only[go_sem,w3];refine Cy (l:=i+1) (p:=(i+1)*4) rfl rfl (by omega) (by omega) (by omega) ?_;simp only[go_sem];refine(Z9 (P:=Tryz.prog) Tryz.func180 rfl rfl (by kernel_rfl) rfl rfl tk26 hb (by decide) (by decide) (by omega)).p ?_;simp only[go_sem,Bool.not_false];refine Ag [.rd 0 false,.rd 1 false,.rd 2 false,.rd 3 false,.rd 4 true,.rd 5 false,.rd 6 false,.rd 7 true,.ef 8 []] ?_;simp only[go_sem,w3];refine Cy (l:=i+1) (p:=(i+1)*4) rfl rfl (by omega) (by omega) (by omega) ?_;simp only[go_sem];refine Ba (p:=i*4) rfl (by omega) (by omega) (by omega) ?_;simp only[go_sem];refine Fb (m:=i+1) (ys:=y::B) rfl hb (by decide) ?_ (by omega) (by simp only[List.length_cons];omega) ?_
   ·rw[Oa (m:=i) rfl (by decide) hb (by rw[fl];omega)]
    rw[List.take_of_length_le (by rw[List.length_drop,fl];omega),hdr]
   simp only[go_sem];refine Ba (p:=i*4) rfl (by omega) (by omega) (by omega) ?_;simp only[go_sem];refine Fb (m:=i) (ys:=[f.cs]) rfl Ab (by decide) (by simp[cut];omega) (by simp;omega) (by simp only[List.length_cons,List.length_nil];omega) ?_;simp only[go_sem];refine Ac (r:=slv b (l.length+1) cap) rfl ⟨.inr ⟨b,cap,by rw[finl],by rw[finl];omega,?_⟩,fun y o hy hn=>?_⟩
   ·rw[Ab,←fin,hL]
    have:=spl3 (x:=f.cs) (B:=B) (y:=y) hA;rw[List.length_cons]at this;rw[this]
   ·have hy2:y≠b:=fun e=>hn (Bg.2 e)
    exact⟨by rw[Ad hy2];exact hy,fun ho=>hy2 (Bg.1 ho)⟩
theorem delete_at{v:AV}(l:List Fa)(i:Nat)(hi:i<l.length)(hl:l.length≤1000000000000)(h:Ow 4 σ v (faC l)):AT Tryz.prog 132 [v,int i,int (i+1:Nat)] σ (Ug σ v (faC (l.take i++l.drop (i+1)))):=by
 refine AT.ob Tryz.func132 rfl ?_;have fl:=Am l;rcases h with⟨h0,_⟩|⟨b,cap,rfl,hcap,hb⟩
 ·have:=congrArg List.length h0
  rw[Am,List.length_nil]at this;omega
 have hL:LAt 4 σ (slv b (faC l).length cap) (faC l):=.inr (.inr ⟨b,cap,rfl,hcap,hb⟩);rw[fl]at hcap hL⊢;have d1:decide ((i:Int)=((i+1:Nat):Int))=false:=decide_eq_false (by omega);simp only[go_sem];refine R7 (l:=i) (h:=i+1) (m:=l.length) rfl rfl rfl (by omega) (by omega) (by omega) fun _=>?_;simp only[go_sem,d1];refine Ag [.rd 0 false,.rd 1 false,.rd 2 true,.rd 3 false,.rd 4 false,.rd 5 true,.ef 6 [],.rd 7 false] ?_;simp only[go_sem];refine D3 (h:=i) rfl (by omega) ?_;simp only[go_sem];refine hL.from (by decide) (by omega) (by rw[fl];omega) fun x hx=>?_;simp only[go_sem];refine As (ys:=(faC l).drop (i+1)) (by rw[hx _ _ hL];simp) (by decide) (by decide) (by decide) (.inr (.inr (.inl ⟨rfl,?_⟩)));simp only[hb];refine⟨trivial,by rw[fl];omega,trivial,by rw[List.length_drop,fl];omega,by rw[List.length_drop,fl];omega,?_⟩;have e1:i+((faC l).drop (i+1)).length=l.length-1:=by rw[List.length_drop,fl];omega
 rw[e1];obtain⟨E,hE⟩:∃E,E=(faC l).take i++(faC l).drop (i+1)++(faC l).drop (l.length-1):=⟨_,rfl⟩;have eL:E.length=l.length:=by rw[hE];simp[fl];omega
 rw[←hE];simp only[go_sem];refine Mh (l:=l.length-1) (h:=l.length) (p:=(l.length-1)*4) (by omega) (by omega) rfl (by omega) (by omega) (by omega) ?_;simp only[go_sem];have e2:l.length-(l.length-1)=1:=by omega
 rw[e2];refine Hg (l:=l.length-1) rfl Ab (by decide) (by decide) (by rw[eL];omega) (by decide) ?_;simp only[go_sem];have e3:E.take (l.length-1)=faC (l.take i++l.drop (i+1)):=by
  rw[hE,List.take_append_of_le_length (by simp[fl];omega),List.take_of_length_le (by simp[fl];omega)];simp[faC,List.map_take,List.map_drop]
 refine Ae (r:=slv b (l.length-1) cap) rfl _ _ (Ht (m:=l.length-1) _ Ab) ?_;rw[B5];have el:(faC (l.take i++l.drop (i+1))).length=l.length-1:=by simp[faC];omega
 refine⟨.inr ⟨b,cap,by rw[el],by rw[el];omega,?_⟩,fun y o hy hn=>?_⟩
 ·rw[Ab,List.append_assoc,List.take_append_of_le_length (by rw[List.length_take,eL];omega),List.take_take,Nat.min_self,e3]
 ·have hy2:y≠b:=fun e=>hn (Bg.2 e)
  exact⟨by rw[Ad hy2];exact hy,fun ho=>hy2 (Bg.1 ho)⟩
end
end BF
theorem Md{σ σ2:St}{t q:Nat}{lv r:AV}{es:List (List AV)}{cs cs0:List AV}(h2:σ2 t=some (.cells (lv::cs)))(ht:σ t=some (.cells cs0))(hL:LAt q σ2 lv es)(hG:∀y o,y≠t→σ y=some o→σ2 y=some o∧¬Own lv y):Ey σ2 r (σ.set t (.cells (.sl q es::cs))) r:=by
 have hn:¬Own lv t:=hL.not_own h2;have hv:VW σ2 (σ.set t (.cells (.sl q es::cs))) lv (.sl q es):=hL.vw_same fun x hx=>by
  have hxt:x≠t:=fun e=>hn (e▸hx);rw[Ad hxt];cases hs:σ x with
  |none=>rfl
  |some o=>exact absurd hx (hG x o hxt hs).2
 exact view_of (K8 h2 (show OW _ _ (.cells _) (.cells _)from vws_cons hv (Ch _)) fun x p hx hp=>(hG x p hx hp).1) (.refl _)
def TB(σ:St)(t:Nat)(T:List Fa)(lim:Int):Prop:=σ t=some (.cells [.sl 4 (faC T),int lim])
def tbC(T:List Fa)(lim:Int):Bn:=.cells [.sl 4 (faC T),int lim]
structure TOk(T:List Fa)(lim:Int):Prop where
 rises:Cp A4 T
 len:T.length≤1000000
 sm:∀f∈T,f.Sm
 lim:lim≠0
section
variable{σ:St}{t:Nat}{T:List Fa}{lim:Int}
theorem Gd(l:List Cn)(hl:l.length≤1000000000000):AT Tryz.prog 58 [.sl 3 (cnC l)] σ fun r σ'=>r= .sl 3 (cnC l)∧σ'=σ:=
 (Mv l hl .sl).post (by kernel_rfl) fun r σ' ⟨h,G⟩=>⟨_,_,H9 h.lat G,rfl,rfl⟩
theorem Mk(h:TB σ t T lim):AT Tryz.prog 126 [ptr t] σ fun r σ'=>r=boo (decide (lim=0))∧σ'=σ:=by
 refine AT.ob Tryz.func126 rfl ?_;unfold TB at h;simp only[go_sem,h];exact Ac (r:=boo _) rfl ⟨rfl,rfl⟩
theorem Tb(h:TB σ t T lim)(hT:TOk T lim)(f:Fa)(hf:f.Sm):AT Tryz.prog 127 [ptr t,.agg f.cs] σ fun r σ'=>BF.Found T f r∧σ'=σ:=by
 refine AT.ob Tryz.func127 rfl ?_;unfold TB at h;simp only[go_sem];refine Ctx.nil.alloc fun p σ1 c1=>?_;have hp:=c1.g0;have hs:=c1.sub;have h1:=hs _ _ h;clear c1;refine Ag [.rd 0 false,.rd 1 false,.rd 2 false,.rd 3 true,.rd 4 true,.ef 5 [],.rd 6 false,.rd 7 false,.rd 8 false,.rd 9 false] ?_;simp only[go_sem,hp,h1];have:=hT.len;refine(BF.bsearch_at T f (by omega) hT.sm hf hT.rises .sl).mono ?_;rintro _ σ1 ⟨⟨k,rfl,hk⟩,rfl⟩;simp only[go_sem];exact Ae (r:=.tup [int k,boo _]) rfl _ σ (Ao hs) ⟨⟨k,rfl,hk⟩,rfl⟩
theorem Oi(h:TB σ t T lim)(hT:TOk T lim)(f:Fa)(hf:f.Sm):AT Tryz.prog 73 [ptr t,.agg f.cs] σ fun r σ'=>r=boo (decide (f∈T))∧σ'=σ:=by
 refine AT.ob Tryz.func73 rfl ?_;simp only[go_sem];refine Ctx.nil.alloc fun p σ1 c1=>?_;have hp:=c1.g0;have hs:=c1.sub;have h1:TB σ1 t T lim:=hs _ _ h;clear c1;simp only[go_sem];refine(Mk h1).p ?_;have d1:=decide_eq_false hT.lim;simp only[go_sem,d1,hp];refine(Tb h1 hT f hf).mono ?_;rintro _ σ1 ⟨⟨k,rfl,hk⟩,rfl⟩;simp only[go_sem];exact Ae (r:=boo _) rfl _ σ (Ao hs) ⟨rfl,rfl⟩
theorem Aim(lim:Int):AT Tryz.prog 49 [int lim] σ fun r σ'=>if 1≤lim∧lim≤4096 then∃b,σ b=none∧r= .tup [ptr b,int 0]∧σ'=σ.set b (tbC [] lim)else r= .tup [.v (.pointer none),int 2]∧σ'=σ:=by
 refine AT.ob Tryz.func49 rfl ?_;by_cases h1:lim<1
 ·have d1:=decide_eq_true h1
  simp only[go_sem,d1];refine Ac (r:=.tup [.v (.pointer none),int 2]) rfl ?_;rw[if_neg (by omega)];exact⟨rfl,rfl⟩
 ·have d1:=decide_eq_false h1
  by_cases h2:4096<lim
  ·have d2:=decide_eq_true h2
   simp only[go_sem,d1,d2];refine Ac (r:=.tup [.v (.pointer none),int 2]) rfl ?_;rw[if_neg (by omega)];exact⟨rfl,rfl⟩
  ·have d2:=decide_eq_false h2
   simp only[go_sem,d1,d2];refine Al fun b hb hbn=>?_;simp only[go_sem];refine Ae (r:=.tup [ptr b,int 0]) rfl (.tup [ptr b,int 0]) (σ.set b (tbC [] lim)) ?_ ?_
   ·have hS:SV (σ.set b (.cells [Ax,int lim])) (σ.set b (tbC [] lim)):=K8 Ab (show OW _ _ (.cells _) (.cells _)from vws_cons (.nil 4) (Ch _)) fun x p hx hp=>by rw[Ad hx];exact hp
    exact view_of hS (.refl _)
   ·rw[if_pos (by omega)]
    exact⟨b,hb,rfl,rfl⟩
def Fj(T:List Fa)(lim:Int)(f:Fa):List Fa×Int:=if okF f=true then(if f∈T then(T,151)else if lim≤T.length then(T,150)else(By A4 f T,0))else(T,40)
theorem Ain(h:TB σ t T lim)(hT:TOk T lim)(f:Fa)(hf:f.Sm):AT Tryz.prog 80 [ptr t,.agg f.cs] σ fun r σ'=>r=int (Fj T lim f).2∧σ'=σ.set t (tbC (Fj T lim f).1 lim):=by
 refine AT.ob Tryz.func80 rfl ?_;have same:σ.set t (tbC T lim)=σ:=Bv h;simp only[go_sem];refine Ctx.nil.alloc fun p σ1 c1=>?_;have hp:=c1.g0;have hs:=c1.sub;have hp0:=c1.f0;have h1:TB σ1 t T lim:=hs _ _ h;clear c1;have out:∀{e:Int},Fj T lim f=(T,e)→∀{fr:Fr} {σ':St},(∀y o,σ y=some o→σ' y=some o)→Bj Tryz.prog fr σ' (Tryz.f80).results.toList=some (int e)→Fp Tryz.prog (fun r σ'=>r=int (Fj T lim f).2∧σ'=σ.set t (tbC (Fj T lim f).1 lim)) (Tryz.f80).results.toList fr σ':=fun h2 _ _ h3 hr=>
  Ae hr _ σ (Ao h3) ⟨by rw[h2],by rw[h2];exact same.symm⟩
 simp only[go_sem];refine(Mk h1).p ?_;have d1:=decide_eq_false hT.lim;simp only[go_sem,d1,hp];refine(O5 f).p ?_;cases hok:okF f with
 |false=>
  have e1:okE f=40:=by unfold okE;rw[hok];rfl
  have d2:(!decide (okE f=0))=true:=by rw[e1];rfl
  simp only[go_sem,d2];refine out (e:=okE f) (by unfold Fj;rw[hok,e1];rfl) hs rfl
 |true=>
 have e1:okE f=0:=by unfold okE;rw[hok];rfl
 have d2:(!decide (okE f=0))=false:=by rw[e1];rfl
 simp only[go_sem,d2,hp];refine(Tb h1 hT f hf).mono ?_;rintro _ σ1 ⟨⟨k,rfl,hk1,hk2,hk3⟩,rfl⟩;by_cases hm:f∈T
 ·have d3:=decide_eq_true hm
  simp only[go_sem,d3];exact out (by unfold Fj;rw[hok,if_pos rfl,if_pos hm]) hs rfl
 ·have d3:=decide_eq_false hm
  have hT':=h1;unfold TB at hT';have tl:=Am T;simp only[go_sem,d3];refine Ag [.rd 0 false,.rd 1 false,.rd 2 false,.rd 3 true,.rd 4 false,.rd 5 false,.rd 6 false,.rd 7 false,.rd 8 true,.rd 9 false] ?_;by_cases hl:lim≤T.length
  ·have d4:=decide_eq_true hl
   simp only[go_sem,hT',d4];exact out (by unfold Fj;rw[hok,if_pos rfl,if_neg hm,if_pos hl]) hs rfl
  ·have d4:=decide_eq_false hl
   simp only[go_sem,hT',d4,hp];refine(Gd f.ar (by unfold Fa.Sm at hf;exact hf)).p ?_;have esp:Au f.cs 3 [.sl 3 (cnC f.ar)]=f.cs:=rfl;have eid:σ1.set p (.cells f.cs)=σ1:=Bv hp;simp only[go_sem,hp,esp,eid];refine Ag [.rd 0 false,.rd 1 false,.rd 2 false,.rd 3 false,.rd 4 true,.rd 6 false,.rd 7 true,.rd 8 false,.ef 5 [7],.ef 9 [],.rd 10 false,.rd 11 false,.ef 12 []] ?_;simp only[go_sem,hT',hp];have tlen:=hT.len;refine(BF.clone_at T (by omega)).mono ?_;rintro v σ2 ⟨hO,hG⟩;have hp2:=(hG _ _ hp).1;have ht2:=(hG _ _ hT').1;simp only[go_sem];refine⟨fun k hk=>?_,(BF.insert_at T f k hk1 (by omega) hO).mono ?_⟩
   ·simp only[go_sem,hp2]
    exact hk
   rintro r σ3 ⟨hO3,hK⟩;have hL:=hO3.lat;have hins:=I4 (c:=A4) hk1 hk2 hk3;rw[if_neg (fun⟨h,e⟩=>hm (by rw[←(Ap.zero _ _).1 e];exact List.getElem_mem h))]at hins;rw[←hins]at hL;have ht3:=(hK _ _ ht2 (hG _ _ hT').2);simp only[go_sem,ht3.1,hL.one,hL.cells];have eput:Fj T lim f=(By A4 f T,0):=by unfold Fj;rw[hok,if_pos rfl,if_neg hm,if_neg hl]
   refine Ae (r:=int 0) rfl (int 0) (σ.set t (tbC (By A4 f T) lim)) ?_ ⟨by rw[eput],by rw[eput]⟩;refine Md (lv:=r) Ab h (hL.keep fun y o hy ho=>?_) fun y o hyt hy=>?_
   ·rw[Ad (fun e=>by rw[e]at ho;exact ht3.2 ho)];exact hy
   ·have h2:=hG _ _ (hs _ _ hy)
    have h3:=hK _ _ h2.1 h2.2;exact⟨by rw[Ad hyt];exact h3.1,h3.2⟩
def Mi(T:List Fa)(f:Fa):List Fa×Int:=if f∈T then(T.filter fun x=>!decide (x=f),0)else(T,152)
theorem Afe(h:TB σ t T lim)(hT:TOk T lim)(f:Fa)(hf:f.Sm):AT Tryz.prog 77 [ptr t,.agg f.cs] σ fun r σ'=>r=int (Mi T f).2∧σ'=σ.set t (tbC (Mi T f).1 lim):=by
 refine AT.ob Tryz.func77 rfl ?_;have same:σ.set t (tbC T lim)=σ:=Bv h;simp only[go_sem];refine Ctx.nil.alloc fun p σ1 c1=>?_;have hp:=c1.g0;have hs:=c1.sub;have h1:TB σ1 t T lim:=hs _ _ h;clear c1;simp only[go_sem];refine(Mk h1).p ?_;have d1:=decide_eq_false hT.lim;simp only[go_sem,d1,hp];refine(Tb h1 hT f hf).mono ?_;rintro _ σ1 ⟨⟨k,rfl,hk1,hk2,hk3⟩,rfl⟩;have hT':=h1;unfold TB at hT';by_cases hm:f∈T
 case neg=>
  have d3:=decide_eq_false hm;simp only[go_sem,d3,Bool.not_false];have e:Mi T f=(T,152):=by unfold Mi;rw[if_neg hm]
  exact Ae (r:=int 152) rfl _ σ (Ao hs) ⟨by rw[e],by rw[e];exact same.symm⟩
 have d3:=decide_eq_true hm;have tlen:=hT.len;obtain⟨hkl,_,her⟩:=BF.erase_at hT.rises hk1 hk2 hk3 hm;simp only[go_sem,d3,Bool.not_true,hT'];refine(BF.clone_at T (by omega)).mono ?_;rintro v σ2 ⟨hO,hG⟩;have ht2:=(hG _ _ hT').1;simp only[go_sem,A2 k (by omega)];refine(BF.delete_at T k hkl (by omega) hO).mono ?_;rintro r σ3 ⟨hO3,hK⟩;have hL:=hO3.lat;rw[her]at hL;have ht3:=(hK _ _ ht2 (hG _ _ hT').2);simp only[go_sem,ht3.1,hL.one,hL.cells];have eput:Mi T f=(T.filter fun x=>!decide (x=f),0):=by unfold Mi;rw[if_pos hm]
 refine Ae (r:=int 0) rfl (int 0) (σ.set t (tbC (T.filter fun x=>!decide (x=f)) lim)) ?_ ⟨by rw[eput],by rw[eput]⟩;refine Md (lv:=r) Ab h (hL.keep fun y o hy ho=>?_) fun y o hyt hy=>?_
 ·rw[Ad (fun e=>by rw[e]at ho;exact ht3.2 ho)];exact hy
 ·have h2:=hG _ _ (hs _ _ hy)
  have h3:=hK _ _ h2.1 h2.2;exact⟨by rw[Ad hyt];exact h3.1,h3.2⟩
end
structure De where
 ru:Int
 hd:Fa
 bo:List Fa
def De.cs(d:De):List AV:=[int d.ru,str d.hd.at',str d.hd.by',str d.hd.pr,.sl 3 (cnC d.hd.ar),.sl 4 (faC d.bo)]
@[go_sem] theorem De.len(d:De):d.cs.length=6:=rfl
@[go_sem] theorem De.one(d:De):d.cs.all AV.one=true:=rfl
@[go_sem] theorem De.take(d:De):d.cs.take 6=d.cs:=rfl
@[go_sem] theorem De.at0(d:De):d.cs.getD 0 (.v undef)=int d.ru:=rfl
@[go_sem] theorem De.at1(d:De):d.cs.getD 1 (.v undef)=str d.hd.at':=rfl
@[go_sem] theorem De.at2(d:De):d.cs.getD 2 (.v undef)=str d.hd.by':=rfl
@[go_sem] theorem De.at3(d:De):d.cs.getD 3 (.v undef)=str d.hd.pr:=rfl
@[go_sem] theorem De.at4(d:De):d.cs.getD 4 (.v undef)= .sl 3 (cnC d.hd.ar):=rfl
@[go_sem] theorem De.at5(d:De):d.cs.getD 5 (.v undef)= .sl 4 (faC d.bo):=rfl
@[go_sem] theorem De.hd1(d:De):(d.cs.drop 1).take 4=d.hd.cs:=rfl
@[go_sem] theorem De.bo5(d:De):(d.cs.drop 5).getD 0 (.v undef)= .sl 4 (faC d.bo):=rfl
@[go_sem] theorem De.take1(d:De):(d.cs.drop 0).getD 0 (.v undef)=int d.ru:=rfl
def deC(l:List De):List (List AV):=l.map De.cs
@[go_sem] theorem Bt(l:List De):(deC l).length=l.length:=by simp[deC]
theorem H1{l:List De}{i:Nat}(h:i<l.length):(deC l).getD i []=l[i].cs:=by simp[deC,List.getD_eq_getElem?_getD,h]
def De.Sm(d:De):Prop:=d.hd.Sm∧d.bo.length≤1000000000000∧∀x∈d.bo,x.Sm
def B6(x y:De):Int:=orI [Lm x.ru y.ru,A4 x.hd y.hd,Ll x.bo y.bo]
theorem Afy(x y:De):B6 x y=Kb (fun x y:De=>Lm x.ru y.ru) (Kb (fun x y:De=>A4 x.hd y.hd) fun x y:De=>Ll x.bo y.bo) x y:=by
 unfold B6 Kb;simp only[orI];split
 ·split
  ·split
   ·rename_i h;exact h.symm
   ·rfl
  ·rfl
 ·rfl
theorem Bw:Fo B6:=by
 have p:=(Ln.pre De.ru).lex ((Ap.pre De.hd).lex (Ea.pre De.bo));rw[show B6=_ from funext fun x=>funext fun y=>Afy x y];refine p.ord fun x y h=>?_;obtain⟨h1,h⟩:=Em h;obtain⟨h2,h3⟩:=Em h;cases x;cases y
 have e1:=(Ln.zero _ _).1 h1;have e2:=(Ap.zero _ _).1 h2;have e3:=(Ea.zero _ _).1 h3;simp only at e1 e2 e3;rw[e1,e2,e3]
instance decDe:DecidableEq De:=fun x y=>decidable_of_iff (B6 x y=0) (Bw.zero x y)
section
variable{σ:St}
theorem Y6(x y:De)(hx:x.Sm)(hy:y.Sm):AT Tryz.prog 136 [.agg x.cs,.agg y.cs] σ fun r σ'=>r=int (B6 x y)∧σ'=σ:=by
 refine AT.ob Tryz.func136 rfl ?_;simp only[go_sem];refine Ctx.nil.alloc fun p σ1 c1=>?_;simp only[go_sem];refine c1.alloc fun q σ2 c2=>?_;have hq:=c2.g1.1.1;have hp:=c2.g1.1.2;have hs:=c2.sub;clear c1 c2;simp only[go_sem];refine Ag [.rd 0 false,.rd 1 true,.rd 2 false,.rd 3 true,.rd 5 false,.rd 6 true,.rd 7 false,.rd 8 true,.rd 10 false,.rd 11 true,.rd 12 false,.rd 13 true,.ef 4 [6,8,11,13],.ef 9 [11,13],.ef 14 [],.rd 15 false,.ef 16 [],.rd 17 false] ?_;simp only[go_sem,hp,hq];refine(Y7 x.ru y.ru).p ?_;simp only[go_sem];refine⟨⟨fun k hk=>?_,fun k hk=>?_,fun k hk=>?_,fun k hk=>?_⟩,(Gx x.hd y.hd hx.1 hy.1).mono ?_⟩
 iterate 4
  ·simp only[go_sem,hp,hq]
   exact hk
 rintro _ σ2 ⟨rfl,rfl⟩;simp only[go_sem];refine⟨⟨fun k hk=>?_,fun k hk=>?_⟩,(Uw .sl .sl hx.2 hy.2).mono ?_⟩
 iterate 2
  ·simp only[go_sem,hp,hq]
   exact hk
 rintro _ σ2 ⟨rfl,rfl⟩;simp only[go_sem];refine(Aeu [Lm x.ru y.ru,A4 x.hd y.hd,Ll x.bo y.bo] (by simp)).p ?_;simp only[go_sem];exact Ae (r:=int _) rfl _ σ (Ao hs) ⟨rfl,rfl⟩
end
end Go.Proofs.YtmifmncabejffaaGreat
