/-
  Contracts of the functions that the statement reaches, and the plain laws of what they reckon.
  Conditions: none.
-/
import Derived.Test.YtmifmncabejffaaGreatRows
import Derived.Sort.AssemblyPlain
import Derived.Test.YtmifmncabejffaaGreatV1EvalFull
import Derived.Test.YtmifmncabejffaaGreatV2EvalFull
import Derived.Test.YtmifmncabejffaaGreatV3EvalFull
set_option linter.unusedVariables false
set_option linter.unusedSimpArgs false
set_option linter.unusedSectionVars false
set_option maxRecDepth 100000
namespace Go.Proofs.YtmifmncabejffaaGreat
open Go Go.Av
def zl0:List Value:=[.string ⟨#[]⟩,.bool false,.int .i64 0,.string ⟨#[]⟩,.string ⟨#[]⟩,.slice none 0 0,.string ⟨#[]⟩,.bool false,.int .i64 0,.string ⟨#[]⟩,.slice none 0 0,.slice none 0 0,.string ⟨#[]⟩,.string ⟨#[]⟩,.string ⟨#[]⟩,.slice none 0 0,.slice none 0 0,.slice none 0 0,.slice none 0 0,.int .i64 0]
@[go_sem] theorem Aw3:zl0.length=20:=_root_.id rfl
@[go_sem] theorem Aw4:zl0.all Value.oneCell'=true:=_root_.id rfl
@[go_sem] theorem tk3:tk Tryz.prog 3=some ⟨false,1,[.int .i64 0],.int .i64⟩:=_root_.id (by kernel_rfl)
@[go_sem] theorem tk4:tk Tryz.prog 4=some ⟨false,1,[.bool false],.bool⟩:=_root_.id (by kernel_rfl)
@[go_sem] theorem ib4:Qw Tryz.prog 4=true:=_root_.id (by kernel_rfl)
@[go_sem] theorem tk5:tk Tryz.prog 5=some ⟨false,1,[.int .u8 0],.int .u8⟩:=_root_.id (by kernel_rfl)
@[go_sem] theorem tk9:tk Tryz.prog 9=some ⟨false,1,[.string ⟨#[]⟩],.str⟩:=_root_.id (by kernel_rfl)
@[go_sem] theorem tk20:tk Tryz.prog 20=some ⟨false,1,[.nilIface],.iface⟩:=_root_.id (by kernel_rfl)
@[go_sem] theorem tk22:tk Tryz.prog 22=some ⟨false,1,[.slice none 0 0],.sl 1 16 [.string ⟨#[]⟩] false⟩:=_root_.id (by kernel_rfl)
@[go_sem] theorem is22:Fi Tryz.prog 22=true:=_root_.id (by kernel_rfl)
@[go_sem] theorem tk23:tk Tryz.prog 23=some ⟨false,1,[.slice none 0 0],.sl 11 160 [.string ⟨#[]⟩,.bool false,.int .i64 0,.string ⟨#[]⟩,.string ⟨#[]⟩,.slice none 0 0,.string ⟨#[]⟩,.bool false,.int .i64 0,.string ⟨#[]⟩,.slice none 0 0] false⟩:=_root_.id (by kernel_rfl)
@[go_sem] theorem is23:Fi Tryz.prog 23=true:=_root_.id (by kernel_rfl)
@[go_sem] theorem tk25:tk Tryz.prog 25=some ⟨true,4,[.string ⟨#[]⟩,.slice none 0 0,.int .i64 0,.slice none 0 0],.st [(0,1,false),(1,1,false),(2,1,false),(3,1,false)]⟩:=_root_.id (by kernel_rfl)
@[go_sem] theorem tk26:tk Tryz.prog 26=some ⟨false,1,[.slice none 0 0],.sl 4 72 [.string ⟨#[]⟩,.string ⟨#[]⟩,.string ⟨#[]⟩,.slice none 0 0] false⟩:=_root_.id (by kernel_rfl)
@[go_sem] theorem is26:Fi Tryz.prog 26=true:=_root_.id (by kernel_rfl)
@[go_sem] theorem tk27:tk Tryz.prog 27=some ⟨false,1,[.slice none 0 0],.sl 5 80 [.int .i64 0,.string ⟨#[]⟩,.string ⟨#[]⟩,.string ⟨#[]⟩,.slice none 0 0] false⟩:=_root_.id (by kernel_rfl)
@[go_sem] theorem is27:Fi Tryz.prog 27=true:=_root_.id (by kernel_rfl)
@[go_sem] theorem tk28:tk Tryz.prog 28=some ⟨false,1,[.slice none 0 0],.sl 3 32 [.bool false,.int .i64 0,.string ⟨#[]⟩] false⟩:=_root_.id (by kernel_rfl)
@[go_sem] theorem is28:Fi Tryz.prog 28=true:=_root_.id (by kernel_rfl)
@[go_sem] theorem tk30:tk Tryz.prog 30=some ⟨true,4,[.string ⟨#[]⟩,.string ⟨#[]⟩,.string ⟨#[]⟩,.slice none 0 0],.st [(0,1,false),(1,1,false),(2,1,false),(3,1,false)]⟩:=_root_.id (by kernel_rfl)
@[go_sem] theorem tk32:tk Tryz.prog 32=some ⟨true,5,[.int .i64 0,.string ⟨#[]⟩,.string ⟨#[]⟩,.string ⟨#[]⟩,.slice none 0 0],.st [(0,1,false),(1,4,true)]⟩:=_root_.id (by kernel_rfl)
@[go_sem] theorem tk36:tk Tryz.prog 36=some ⟨false,1,[.pointer none],.ptr 80⟩:=_root_.id (by kernel_rfl)
@[go_sem] theorem ip36:Er Tryz.prog 36=true:=_root_.id (by kernel_rfl)
@[go_sem] theorem tk37:tk Tryz.prog 37=some ⟨false,1,[.pointer none],.ptr 46⟩:=_root_.id (by kernel_rfl)
@[go_sem] theorem ip37:Er Tryz.prog 37=true:=_root_.id (by kernel_rfl)
@[go_sem] theorem tk42:tk Tryz.prog 42=some ⟨false,1,[.pointer none],.ptr 72⟩:=_root_.id (by kernel_rfl)
@[go_sem] theorem ip42:Er Tryz.prog 42=true:=_root_.id (by kernel_rfl)
@[go_sem] theorem tk43:tk Tryz.prog 43=some ⟨false,1,[.pointer none],.ptr 120⟩:=_root_.id (by kernel_rfl)
@[go_sem] theorem ip43:Er Tryz.prog 43=true:=_root_.id (by kernel_rfl)
@[go_sem] theorem tk44:tk Tryz.prog 44=some ⟨false,1,[.slice none 0 0],.sl 5 80 [.string ⟨#[]⟩,.string ⟨#[]⟩,.string ⟨#[]⟩,.slice none 0 0,.bool false] false⟩:=_root_.id (by kernel_rfl)
@[go_sem] theorem is44:Fi Tryz.prog 44=true:=_root_.id (by kernel_rfl)
@[go_sem] theorem tk46:tk Tryz.prog 46=some ⟨true,10,[.string ⟨#[]⟩,.slice none 0 0,.slice none 0 0,.pointer none,.pointer none,.slice none 0 0,.slice none 0 0,.slice none 0 0,.bool false,.bool false],.st [(0,1,false),(1,1,false),(2,1,false),(3,1,false),(4,1,false),(5,1,false),(6,1,false),(7,1,false),(8,1,false),(9,1,false)]⟩:=_root_.id (by kernel_rfl)
@[go_sem] theorem tk47:tk Tryz.prog 47=some ⟨false,1,[.int .i64 0],.int .i64⟩:=_root_.id (by kernel_rfl)
@[go_sem] theorem tk54:tk Tryz.prog 54=some ⟨false,1,[.nilFunc],.other⟩:=_root_.id (by kernel_rfl)
@[go_sem] theorem tk57:tk Tryz.prog 57=some ⟨false,1,[.nilFunc],.other⟩:=_root_.id (by kernel_rfl)
@[go_sem] theorem tk65:tk Tryz.prog 65=some ⟨true,5,[.string ⟨#[]⟩,.string ⟨#[]⟩,.string ⟨#[]⟩,.slice none 0 0,.bool false],.st [(0,4,true),(4,1,false)]⟩:=_root_.id (by kernel_rfl)
@[go_sem] theorem tk72:tk Tryz.prog 72=some ⟨true,2,[.slice none 0 0,.int .i64 0],.st [(0,1,false),(1,1,false)]⟩:=_root_.id (by kernel_rfl)
@[go_sem] theorem tk74:tk Tryz.prog 74=some ⟨false,1,[.slice none 0 0],.sl 6 104 [.int .i64 0,.string ⟨#[]⟩,.string ⟨#[]⟩,.string ⟨#[]⟩,.slice none 0 0,.slice none 0 0] false⟩:=_root_.id (by kernel_rfl)
@[go_sem] theorem is74:Fi Tryz.prog 74=true:=_root_.id (by kernel_rfl)
@[go_sem] theorem tk76:tk Tryz.prog 76=some ⟨false,1,[.nilFunc],.other⟩:=_root_.id (by kernel_rfl)
@[go_sem] theorem tk77:tk Tryz.prog 77=some ⟨false,1,[.pointer none],.ptr 143⟩:=_root_.id (by kernel_rfl)
@[go_sem] theorem ip77:Er Tryz.prog 77=true:=_root_.id (by kernel_rfl)
@[go_sem] theorem tk78:tk Tryz.prog 78=some ⟨false,1,[.pointer none],.ptr 147⟩:=_root_.id (by kernel_rfl)
@[go_sem] theorem ip78:Er Tryz.prog 78=true:=_root_.id (by kernel_rfl)
@[go_sem] theorem tk80:tk Tryz.prog 80=some ⟨true,9,[.string ⟨#[]⟩,.slice none 0 0,.slice none 0 0,.pointer none,.pointer none,.slice none 0 0,.slice none 0 0,.slice none 0 0,.bool false],.st [(0,1,false),(1,1,false),(2,1,false),(3,1,false),(4,1,false),(5,1,false),(6,1,false),(7,1,false),(8,1,false)]⟩:=_root_.id (by kernel_rfl)
@[go_sem] theorem tk81:tk Tryz.prog 81=some ⟨true,2,[.pointer none,.pointer none],.arr 2 1 false⟩:=_root_.id (by kernel_rfl)
@[go_sem] theorem tk86:tk Tryz.prog 86=some ⟨true,3,[.bool false,.int .i64 0,.string ⟨#[]⟩],.st [(0,1,false),(1,1,false),(2,1,false)]⟩:=_root_.id (by kernel_rfl)
@[go_sem] theorem tk88:tk Tryz.prog 88=some ⟨true,4,[.string ⟨#[]⟩,.bool false,.int .i64 0,.string ⟨#[]⟩],.st [(0,1,false),(1,3,true)]⟩:=_root_.id (by kernel_rfl)
@[go_sem] theorem tk89:tk Tryz.prog 89=some ⟨false,1,[.slice none 0 0],.sl 4 48 [.string ⟨#[]⟩,.bool false,.int .i64 0,.string ⟨#[]⟩] false⟩:=_root_.id (by kernel_rfl)
@[go_sem] theorem is89:Fi Tryz.prog 89=true:=_root_.id (by kernel_rfl)
@[go_sem] theorem tk90:tk Tryz.prog 90=some ⟨false,1,[.slice none 0 0],.sl 10 136 [.string ⟨#[]⟩,.bool false,.int .i64 0,.string ⟨#[]⟩,.string ⟨#[]⟩,.slice none 0 0,.string ⟨#[]⟩,.bool false,.int .i64 0,.string ⟨#[]⟩] false⟩:=_root_.id (by kernel_rfl)
@[go_sem] theorem is90:Fi Tryz.prog 90=true:=_root_.id (by kernel_rfl)
@[go_sem] theorem tk92:tk Tryz.prog 92=some ⟨true,11,[.string ⟨#[]⟩,.bool false,.int .i64 0,.string ⟨#[]⟩,.string ⟨#[]⟩,.slice none 0 0,.string ⟨#[]⟩,.bool false,.int .i64 0,.string ⟨#[]⟩,.slice none 0 0],.st [(0,4,true),(4,1,false),(5,1,false),(6,4,true),(10,1,false)]⟩:=_root_.id (by kernel_rfl)
@[go_sem] theorem tk97:tk Tryz.prog 97=some ⟨false,1,[.pointer none],.ptr 99⟩:=_root_.id (by kernel_rfl)
@[go_sem] theorem ip97:Er Tryz.prog 97=true:=_root_.id (by kernel_rfl)
@[go_sem] theorem tk99:tk Tryz.prog 99=some ⟨true,4,[.slice none 0 0,.slice none 0 0,.int .i64 0,.bool false],.st [(0,1,false),(1,1,false),(2,1,false),(3,1,false)]⟩:=_root_.id (by kernel_rfl)
@[go_sem] theorem Bbg:tk Tryz.prog 104=some ⟨true,10,[.string ⟨#[]⟩,.bool false,.int .i64 0,.string ⟨#[]⟩,.string ⟨#[]⟩,.slice none 0 0,.string ⟨#[]⟩,.bool false,.int .i64 0,.string ⟨#[]⟩],.st [(0,4,true),(4,1,false),(5,1,false),(6,4,true)]⟩:=_root_.id (by kernel_rfl)
@[go_sem] theorem Bbh:tk Tryz.prog 110=some ⟨false,1,[.slice none 0 0],.sl 1 24 [.slice none 0 0] false⟩:=_root_.id (by kernel_rfl)
@[go_sem] theorem Baa:Fi Tryz.prog 110=true:=_root_.id (by kernel_rfl)
@[go_sem] theorem Bbi:tk Tryz.prog 115=some ⟨false,1,[.nilFunc],.other⟩:=_root_.id (by kernel_rfl)
@[go_sem] theorem Bbj:tk Tryz.prog 120=some ⟨true,1,[.slice none 0 0],.st [(0,1,false)]⟩:=_root_.id (by kernel_rfl)
@[go_sem] theorem Bbk:tk Tryz.prog 123=some ⟨false,1,[.nilFunc],.other⟩:=_root_.id (by kernel_rfl)
@[go_sem] theorem Auv:tk Tryz.prog 125=some ⟨true,6,[.int .i64 0,.string ⟨#[]⟩,.string ⟨#[]⟩,.string ⟨#[]⟩,.slice none 0 0,.slice none 0 0],.st [(0,1,false),(1,4,true),(5,1,false)]⟩:=_root_.id (by kernel_rfl)
@[go_sem] theorem Bbl:tk Tryz.prog 127=some ⟨false,1,[.nilFunc],.other⟩:=_root_.id (by kernel_rfl)
@[go_sem] theorem Bbm:tk Tryz.prog 130=some ⟨false,1,[.slice none 0 0],.sl 4 40 [.int .i64 0,.string ⟨#[]⟩,.int .i64 0,.int .i64 0] false⟩:=_root_.id (by kernel_rfl)
@[go_sem] theorem Bab:Fi Tryz.prog 130=true:=_root_.id (by kernel_rfl)
@[go_sem] theorem Bbn:tk Tryz.prog 133=some ⟨false,1,[.pointer none],.ptr 135⟩:=_root_.id (by kernel_rfl)
@[go_sem] theorem Az6:Er Tryz.prog 133=true:=_root_.id (by kernel_rfl)
@[go_sem] theorem Bbo:tk Tryz.prog 135=some ⟨true,2,[.slice none 0 0,.int .i64 0],.st [(0,1,false),(1,1,false)]⟩:=_root_.id (by kernel_rfl)
@[go_sem] theorem Bbp:tk Tryz.prog 137=some ⟨true,2,[.int .i64 0,.int .i64 0],.st [(0,1,false),(1,1,false)]⟩:=_root_.id (by kernel_rfl)
@[go_sem] theorem Bbq:tk Tryz.prog 143=some ⟨true,2,[.slice none 0 0,.int .i64 0],.st [(0,1,false),(1,1,false)]⟩:=_root_.id (by kernel_rfl)
@[go_sem] theorem Bbr:tk Tryz.prog 147=some ⟨true,2,[.slice none 0 0,.bool false],.st [(0,1,false),(1,1,false)]⟩:=_root_.id (by kernel_rfl)
@[go_sem] theorem Bbs:tk Tryz.prog 148=some ⟨false,1,[.slice none 0 0],.sl 4 48 [.string ⟨#[]⟩,.bool false,.int .i64 0,.string ⟨#[]⟩] false⟩:=_root_.id (by kernel_rfl)
@[go_sem] theorem Bac:Fi Tryz.prog 148=true:=_root_.id (by kernel_rfl)
@[go_sem] theorem Bbt:tk Tryz.prog 151=some ⟨false,1,[.pointer none],.ptr 155⟩:=_root_.id (by kernel_rfl)
@[go_sem] theorem Az7:Er Tryz.prog 151=true:=_root_.id (by kernel_rfl)
@[go_sem] theorem Bbu:tk Tryz.prog 152=some ⟨false,1,[.slice none 0 0],.sl 1 8 [.int .i64 0] false⟩:=_root_.id (by kernel_rfl)
@[go_sem] theorem Bad:Fi Tryz.prog 152=true:=_root_.id (by kernel_rfl)
@[go_sem] theorem Bbv:tk Tryz.prog 155=some ⟨true,20,zl0,.st [(0,11,true),(11,1,false),(12,4,true),(16,1,false),(17,1,false),(18,1,false),(19,1,false)]⟩:=_root_.id (by kernel_rfl)
@[go_sem] theorem Bbw:tk Tryz.prog 158=some ⟨false,1,[.nilFunc],.other⟩:=_root_.id (by kernel_rfl)
@[go_sem] theorem Bbx:tk Tryz.prog 166=some ⟨false,1,[.nilFunc],.other⟩:=_root_.id (by kernel_rfl)
@[go_sem] theorem Bby:tk Tryz.prog 169=some ⟨false,1,[.nilFunc],.other⟩:=_root_.id (by kernel_rfl)
@[go_sem] theorem Bbz:tk Tryz.prog 171=some ⟨false,1,[.pointer none],.ptr 173⟩:=_root_.id (by kernel_rfl)
@[go_sem] theorem Az8:Er Tryz.prog 171=true:=_root_.id (by kernel_rfl)
@[go_sem] theorem Bb0:tk Tryz.prog 173=some ⟨true,3,[.slice none 0 0,.int .i64 0,.bool false],.st [(0,1,false),(1,1,false),(2,1,false)]⟩:=_root_.id (by kernel_rfl)
@[go_sem] theorem Bb1:tk Tryz.prog 186=some ⟨true,4,[.int .i64 0,.string ⟨#[]⟩,.int .i64 0,.int .i64 0],.st [(0,1,false),(1,1,false),(2,1,false),(3,1,false)]⟩:=_root_.id (by kernel_rfl)
@[go_sem] theorem Bb2:tk Tryz.prog 200=some ⟨true,4,[.string ⟨#[]⟩,.bool false,.int .i64 0,.string ⟨#[]⟩],.st [(0,1,false),(1,3,true)]⟩:=_root_.id (by kernel_rfl)
@[go_sem] theorem Bb3:tk Tryz.prog 206=some ⟨false,1,[.int .u64 0],.int .u64⟩:=_root_.id (by kernel_rfl)
@[go_sem] theorem Bb4:tk Tryz.prog 218=some ⟨false,1,[.nilFunc],.other⟩:=_root_.id (by kernel_rfl)
@[go_sem] theorem Bb5:tk Tryz.prog 224=some ⟨false,1,[.nilFunc],.other⟩:=_root_.id (by kernel_rfl)
@[go_sem] theorem Bb6:tk Tryz.prog 227=some ⟨false,1,[.int .i64 0],.int .i64⟩:=_root_.id (by kernel_rfl)
@[go_sem] theorem Bb7:tk Tryz.prog 234=some ⟨false,1,[.int .u32 0],.int .u32⟩:=_root_.id (by kernel_rfl)
@[go_sem] theorem Bb8:tk Tryz.prog 236=some ⟨false,1,[.int .u64 0],.int .u64⟩:=_root_.id (by kernel_rfl)
@[go_sem] theorem Bb9:tk Tryz.prog 249=some ⟨false,1,[.int .u64 0],.int .u64⟩:=_root_.id (by kernel_rfl)
@[go_sem] theorem Bca:tk Tryz.prog 253=some ⟨false,1,[.pointer none],.ptr 3⟩:=_root_.id (by kernel_rfl)
@[go_sem] theorem Az9:Er Tryz.prog 253=true:=_root_.id (by kernel_rfl)
@[go_sem] theorem Az3:Ll Tryz.prog 137=true:=_root_.id (by kernel_rfl)
attribute [go_sem_proc] reduceIte Nat.reduceEqDiff Nat.reduceAdd Nat.reduceMul Nat.reduceSub Nat.reduceLT Nat.reduceLeDiff Int.reduceLE Int.reduceLT Int.reduceToNat Int.reduceEq
theorem Mk{G:Prop}{R:Fr→St→Prop}(M:Fr→St→Prop)(h1:(∀fr σ,M fr σ→R fr σ)→G)(h2:∀fr σ,M fr σ→R fr σ):G:=h1 h2
def Aik(σ:St)(q:Nat)(es:List (List AV))(n c:Nat)(k:AV→St→Prop):Prop:=∀b,σ b=none→k (.v (.slice (some ⟨b,0,none⟩) n c)) (σ.set b (.rows q es false c))
theorem N2{σ:St}{q n c:Nat}{es:List (List AV)}{k:AV→St→Prop}(h:∀b,σ b=none→(∀x o,σ x=some o→x≠b)→k (.v (.slice (some ⟨b,0,none⟩) n c)) (σ.set b (.rows q es false c))):Aik σ q es n c k:=
 fun b hb=>h b hb fun x o hx e=>by subst e;rw[hb]at hx;cases hx
@[go_sem] theorem Aya{P:Program}{t:TypeId}{l c:Operand}{fr:Fr}{σ:St}{k:AV→St→Prop}:aOp P (.makeSlice t l c) fr σ k=N3 (tk P t) σ (fr.ev l) (fr.ev c) k:=_root_.id rfl
@[go_sem] theorem Ax0{σ:St}{k:AV→St→Prop}{ag byt:Bool}{sz q eby:Nat}{zr ez:List Value}{ik ik':IntKind}{l c:Int}:N3 (some ⟨ag,sz,zr,.sl q eby ez byt⟩) σ (.v (.int ik l)) (.v (.int ik' c)) k=(0<q∧0<eby∧ez.all Value.oneCell'=true∧0≤l∧l≤c∧(eby:Int)*c≤281474976710656∧Aik σ q (List.replicate l.toNat (ez.map .v)) l.toNat c.toNat k):=_root_.id rfl
abbrev ptr(b:Nat):AV:=.v (.pointer (some ⟨b,0,none⟩))
abbrev int(n:Int):AV:=.v (.int .i64 n)
abbrev boo(b:Bool):AV:=.v (.bool b)
abbrev str(s:ByteArray):AV:=.v (.string s)
abbrev A4:AV:=.v (.slice none 0 0)
abbrev emp:ByteArray:=⟨#[]⟩
structure Tm where
 v:ByteArray
 b:Bool
 n:Int
 s:ByteArray
deriving DecidableEq
def Tm.cs(t:Tm):List AV:=[str t.v,boo t.b,int t.n,str t.s]
def Tm.zero:Tm:=⟨emp,false,0,emp⟩
@[go_sem] theorem Tm.len(t:Tm):t.cs.length=4:=rfl
@[go_sem] theorem Tm.one(t:Tm):t.cs.all AV.one=true:=rfl
@[go_sem] theorem Tm.take(t:Tm):t.cs.take 4=t.cs:=rfl
@[go_sem] theorem Tm.at0(t:Tm):t.cs.getD 0 (.v undef)=str t.v:=rfl
def tmC(l:List Tm):List (List AV):=l.map Tm.cs
@[go_sem] theorem Ku(l:List Tm):(tmC l).length=l.length:=by simp[tmC]
theorem H0{l:List Tm}{i:Nat}(h:i<l.length):(tmC l).getD i []=l[i].cs:=by simp[tmC,List.getD_eq_getElem?_getD,h]
structure Li where
 by':Tm
 nm:ByteArray
 ar:List Tm
 at':Tm
def Li.cs(l:Li):List AV:=[str l.by'.v,boo l.by'.b,int l.by'.n,str l.by'.s,str l.nm,.sl 4 (tmC l.ar),str l.at'.v,boo l.at'.b,int l.at'.n,str l.at'.s]
@[go_sem] theorem Li.len(l:Li):l.cs.length=10:=rfl
@[go_sem] theorem Li.one(l:Li):l.cs.all AV.one=true:=rfl
@[go_sem] theorem Li.take(l:Li):l.cs.take 10=l.cs:=rfl
@[go_sem] theorem Li.at4(l:Li):l.cs.getD 4 (.v undef)=str l.nm:=rfl
@[go_sem] theorem Li.at5(l:Li):l.cs.getD 5 (.v undef)= .sl 4 (tmC l.ar):=rfl
@[go_sem] theorem Li.at0(l:Li):l.cs.getD 0 (.v undef)=str l.by'.v:=rfl
@[go_sem] theorem Li.at6(l:Li):l.cs.getD 6 (.v undef)=str l.at'.v:=rfl
@[go_sem] theorem Li.by0(l:Li):l.cs.take 4=l.by'.cs:=rfl
@[go_sem] theorem Li.atm(l:Li):(l.cs.drop 6).take 4=l.at'.cs:=rfl
@[go_sem] theorem Li.nm4(l:Li):(l.cs.drop 4).getD 0 (.v undef)=str l.nm:=rfl
@[go_sem] theorem Li.ar5(l:Li):(l.cs.drop 5).getD 0 (.v undef)= .sl 4 (tmC l.ar):=rfl
@[go_sem] theorem Li.at60(l:Li):(l.cs.drop 6).getD 0 (.v undef)=str l.at'.v:=rfl
def liC(l:List Li):List (List AV):=l.map Li.cs
@[go_sem] theorem D7(l:List Li):(liC l).length=l.length:=by simp[liC]
theorem D6{l:List Li}{i:Nat}(h:i<l.length):(liC l).getD i []=l[i].cs:=by simp[liC,List.getD_eq_getElem?_getD,h]
attribute [go_sem] Nat.le_refl Nat.zero_le Nat.zero_add Nat.add_zero Nat.mul_one Int.toNat_natCast Int.natCast_nonneg Int.cast_ofNat_Int ne_eq not_true_eq_false not_false_eq_true imp_self implies_true true_implies false_implies and_self List.length_map List.length_drop
def Li.zero:Li:=⟨.zero,emp,[],.zero⟩
structure Rl where
 ho:Tm
 nm:ByteArray
 ar:List Tm
 at':Tm
 bo:List Li
def Rl.cs(r:Rl):List AV:=[str r.ho.v,boo r.ho.b,int r.ho.n,str r.ho.s,str r.nm,.sl 4 (tmC r.ar),str r.at'.v,boo r.at'.b,int r.at'.n,str r.at'.s,.sl 10 (liC r.bo)]
@[go_sem] theorem Rl.len(r:Rl):r.cs.length=11:=rfl
@[go_sem] theorem Rl.one(r:Rl):r.cs.all AV.one=true:=rfl
@[go_sem] theorem Rl.take(r:Rl):r.cs.take 11=r.cs:=rfl
@[go_sem] theorem Rl.at0(r:Rl):r.cs.getD 0 (.v undef)=str r.ho.v:=rfl
@[go_sem] theorem Rl.at10(r:Rl):r.cs.getD 10 (.v undef)= .sl 10 (liC r.bo):=rfl
@[go_sem] theorem Rl.ho0(r:Rl):r.cs.take 4=r.ho.cs:=rfl
@[go_sem] theorem Rl.nm4(r:Rl):(r.cs.drop 4).getD 0 (.v undef)=str r.nm:=rfl
@[go_sem] theorem Rl.ar5(r:Rl):(r.cs.drop 5).getD 0 (.v undef)= .sl 4 (tmC r.ar):=rfl
@[go_sem] theorem Rl.bo10(r:Rl):(r.cs.drop 10).getD 0 (.v undef)= .sl 10 (liC r.bo):=rfl
def inC(l:List Int):List (List AV):=l.map fun n=>[int n]
@[go_sem] theorem Xk(l:List Int):(inC l).length=l.length:=by simp[inC]
theorem Xj{l:List Int}{i:Nat}(h:i<l.length):(inC l).getD i []=[int l[i]]:=by simp[inC,List.getD_eq_getElem?_getD,h]
def stC(l:List ByteArray):List (List AV):=l.map fun s=>[str s]
@[go_sem] theorem Pw(l:List ByteArray):(stC l).length=l.length:=by simp[stC]
theorem Kr{l:List ByteArray}{i:Nat}(h:i<l.length):(stC l).getD i []=[str l[i]]:=by simp[stC,List.getD_eq_getElem?_getD,h]
def Rd(q:Nat)(σ:St)(lv:AV)(es:List (List AV)):Prop:=lv= .sl q es∨LAt q σ lv es
section
variable{q:Nat}{σ σ':St}{lv:AV}{es:List (List AV)}{K:AV→Prop}
theorem Rd.sl:Rd q σ (.sl q es) es:=.inl rfl
theorem Rd.of(h:LAt q σ lv es):Rd q σ lv es:=.inr h
theorem Rd.len{ag:Bool}{sz eby:Nat}{zr ez:List Value}{byt:Bool}(h:Rd q σ lv es):K6 (some ⟨ag,sz,zr,.sl q eby ez byt⟩) lv K=K (.v (.int .i64 es.length)):=by
 rcases h with rfl|h
 ·rfl
 ·exact h.len
theorem Rd.elem{ag:Bool}{sz eby:Nat}{zr ez:List Value}{byt:Bool}{ik:IntKind}{j:Int}(h:Rd q σ lv es)(h0:0≤j)(h1:j<es.length)
  (hk:∀p,EAt q σ p (es.getD j.toNat []) 0→K p):Fs (some ⟨ag,sz,zr,.sl q eby ez byt⟩) σ lv (.v (.int ik j)) K:=by
 rcases h with rfl|h
 ·exact⟨rfl,h0,h1,hk _ (.inl (by simp))⟩
 ·exact h.elem h0 h1 hk
theorem Rd.keep(h:Rd q σ lv es)(hs:∀x o,σ x=some o→σ' x=some o):Rd q σ' lv es:=h.imp _root_.id fun h=>h.keep fun x o hx _=>hs x o hx
end
theorem Ao3{q:Nat}{byt:Bool}{σ:St}{lv:AV}{es:List (List AV)}(hq:0<q)(h:LAt q σ lv es):src q byt σ lv=some es:=by
 rcases h with⟨rfl,rfl⟩|rfl|⟨b,cap,rfl,hc,hb⟩
 ·simp[src]
 ·simp[src]
 ·simp only[src,hb]
  rw[if_pos ⟨trivial,by simp,by simp⟩];simp
theorem Ao2{q b:Nat}{o o':Cj}{σ:St}{lv:AV}{es:List (List AV)}(h:LAt q σ lv es)(hb:σ b=some o)(hn:¬Own lv b):LAt q (σ.set b o') lv es:=
 h.keep fun x p hx ho=>by
  have:x≠b:=fun e=>by subst e;exact hn ho
  rw[Ag this];exact hx
abbrev fnv(g:Nat):AV:=.v (.func (.func g) #[] #[])
abbrev slv(b n c:Nat):AV:=.v (.slice (some ⟨b,0,none⟩) n c)
def ltc{α:Type}(cf:α→α→Int)(x y:α):Bool:=decide (cf x y<0)
def rw'{α:Type}(en:α→List AV)(d:Array α):List (List AV):=d.toList.map en
section
variable{α:Type}{en:α→List AV}{d:Array α}
@[go_sem] theorem Asy:(rw' en d).length=d.size:=by simp[rw']
theorem Ax[Inhabited α]{j:Nat}(h:j<d.size):(rw' en d).getD j []=en d[j]! :=by
 simp[rw',List.getD_eq_getElem?_getD,h]
theorem Fl{j:Nat}{x:α}:(rw' en d).set j (en x)=rw' en (d.setIfInBounds j x):=by
 simp[rw']
theorem C3[Inhabited α]{i j:Nat}:(Go.Sort.swp d i j).size=d.size:=by simp[Go.Sort.swp]
end
theorem A0{β σ:St}{b:Nat}{ob:Cj}(hn:β b=none)(hs:∀x o,β x=some o→σ x=some o):∀x o,β x=some o→(σ.set b ob) x=some o:=fun x o hx=>by
 have:x≠b:=fun e=>by subst e;rw[hn]at hx;cases hx
 rw[Ag this];exact hs x o hx
theorem Bt{α:Type}{en:α→List AV}{q:Nat}(hl:∀x,(en x).length=q)(x:α):(en x).take q=en x:=List.take_of_length_le (by rw[hl];omega)
theorem Ge{α:Type}{en:α→List AV}{q:Nat}(hl:∀x,(en x).length=q)(x y:α):en x++List.drop q (en y)=en x:=by rw[List.drop_eq_nil_of_le (by rw[hl];omega),List.append_nil]
def chd{α:Type}[Inhabited α](lt:α→α→Bool)(hi f r:Nat)(d:Array α):Nat:=if 2*r+2<hi∧lt d[f+(2*r+1)]! d[f+(2*r+2)]! =true then 2*r+2 else 2*r+1
theorem J6{α:Type}[Inhabited α]{lt:α→α→Bool}{hi f r:Nat}{d:Array α}(h:¬2*r+1<hi):Go.Sort.siftDown lt hi f r d=d:=by
 rw[Go.Sort.siftDown];rw[dif_pos (by omega)]
theorem Q6{α:Type}[Inhabited α]{lt:α→α→Bool}{hi f r:Nat}{d:Array α}(h:2*r+1<hi):Go.Sort.siftDown lt hi f r d=if lt d[f+r]! d[f+chd lt hi f r d]! =true then Go.Sort.siftDown lt hi f (chd lt hi f r d) (Go.Sort.swp d (f+r) (f+chd lt hi f r d))else d:=by
 rw[Go.Sort.siftDown];rw[dif_neg (by omega)];by_cases h1:2*r+1+1<hi
 ·by_cases h2:lt d[f+(2*r+1)]! d[f+(2*r+1)+1]! =true
  ·have hc:chd lt hi f r d=2*r+2:=by unfold chd;exact if_pos ⟨h1,h2⟩
   rw[hc,if_pos (by simp only[h1,h2,decide_true,Bool.and_self]),dif_pos h1];by_cases h3:lt d[f+r]! d[f+(2*r+2)]! =true
   ·simp only[h3,Bool.not_true,Bool.false_eq_true,if_false,if_true]
   ·simp only[h3,Bool.not_false,Bool.false_eq_true,if_true,if_false]
  ·have hc:chd lt hi f r d=2*r+1:=by unfold chd;exact if_neg fun h=>h2 h.2
   rw[hc,if_neg (by simp only[h1,decide_true,Bool.true_and];exact h2)];by_cases h3:lt d[f+r]! d[f+(2*r+1)]! =true
   ·simp only[h3,Bool.not_true,Bool.false_eq_true,if_false,if_true]
   ·simp only[h3,Bool.not_false,Bool.false_eq_true,if_true,if_false]
 ·have hc:chd lt hi f r d=2*r+1:=by unfold chd;exact if_neg fun h=>h1 h.1
  rw[hc,if_neg (by simp only[h1,decide_false,Bool.false_and,Bool.false_eq_true,not_false_eq_true])];by_cases h3:lt d[f+r]! d[f+(2*r+1)]! =true
  ·simp only[h3,Bool.not_true,Bool.false_eq_true,if_false,if_true]
  ·simp only[h3,Bool.not_false,Bool.false_eq_true,if_true,if_false]
theorem Aby{α:Type}[Inhabited α]{lt:α→α→Bool}{hi f r:Nat}{d:Array α}(h:2*r+1<hi):chd lt hi f r d<hi∧r<chd lt hi f r d:=by
 unfold chd;split
 ·rename_i h;exact⟨h.1,by omega⟩
 ·exact⟨h,by omega⟩
structure Ctx(σ0:St)(L:List (Nat×Cj))(σ:St):Prop where
 sub:∀x o,σ0 x=some o→σ x=some o
 frs:∀p∈L,σ0 p.1=none
 mem:∀p∈L,σ p.1=some p.2
 nod:(L.map Prod.fst).Nodup
section
variable{σ0 σ σ':St}{L:List (Nat×Cj)}{b b0 b1 b2 b3 b4 b5:Nat}{o o' o0 o1 o2 o3 o4 o5:Cj}{k:AV→St→Prop}{cs:List AV}
theorem Ctx.nil:Ctx σ [] σ:=⟨fun _ _ h=>h,fun p hp=>(by cases hp),fun p hp=>(by cases hp),List.nodup_nil⟩
theorem Ctx.new(c:Ctx σ0 L σ)(hb:σ b=none):Ctx σ0 ((b,o)::L) (σ.set b o) where
 sub:=fun x p hx=>by
  have:=c.sub x p hx;rw[Ag (fun e=>by rw[e,hb]at this;cases this)];exact this
 frs p hp:=by
  rcases List.mem_cons.1 hp with rfl|hp
  ·exact Df c.sub hb
  ·exact c.frs p hp
 mem p hp:=by
  rcases List.mem_cons.1 hp with rfl|hp
  ·exact Ab
  ·have:=c.mem p hp
   rw[Ag (fun e=>by rw[e,hb]at this;cases this)];exact this
 nod:=by
  rw[List.map_cons,List.nodup_cons];refine⟨fun h=>?_,c.nod⟩;obtain⟨p,hp,he⟩:=List.mem_map.1 h;have:=c.mem p hp;rw[he,hb]at this;cases this
theorem Ctx.upd(c:Ctx σ0 L σ)(i:Nat)(hi:(L[i]?).map Prod.fst=some b):Ctx σ0 (L.set i (b,o')) (σ.set b o'):=by
 obtain⟨⟨b',o⟩,h1,h2⟩:=Option.map_eq_some_iff.1 hi;simp only at h2;subst h2;obtain⟨hl,h1⟩:=List.getElem?_eq_some_iff.1 h1;have hb0:σ0 b'=none:=c.frs _ (h1▸List.getElem_mem hl);have hm:∀p∈L.set i (b',o'),∃j,∃hj:j<L.length,p=if j=i then(b',o')else L[j]:=fun p hp=>by
  obtain⟨j,hj,rfl⟩:=List.mem_iff_getElem.1 hp;refine⟨j,by simpa using hj,?_⟩;rw[List.getElem_set];by_cases e:i=j
  ·rw[if_pos e,if_pos e.symm]
  ·rw[if_neg e,if_neg (Ne.symm e)]
 have hn:∀j (hj:j<L.length),j≠i→L[j].1≠b':=fun j hj hji e=>by
  have hp:=List.pairwise_iff_getElem.1 c.nod;rcases Nat.lt_or_gt_of_ne hji with h|h
  ·exact hp j i (by simpa using hj) (by simpa using hl) h (by simp[e,h1])
  ·exact hp i j (by simpa using hl) (by simpa using hj) h (by simp[e,h1])
 refine⟨A0 hb0 c.sub,fun p hp=>?_,fun p hp=>?_,?_⟩
 ·obtain⟨j,hj,rfl⟩:=hm p hp
  split
  ·exact hb0
  ·exact c.frs _ (List.getElem_mem hj)
 ·obtain⟨j,hj,rfl⟩:=hm p hp
  split
  ·exact Ab
  ·rename_i hji
   rw[Ag (hn j hj hji)];exact c.mem _ (List.getElem_mem hj)
 ·rw[List.map_set,show(b',o').1=b' from rfl,show(L.map Prod.fst).set i b'=L.map Prod.fst from ?_]
  ·exact c.nod
  ·refine List.ext_getElem? fun j=>?_
   by_cases e:i=j
   ·subst e;simp[List.getElem?_set,hl,h1]
   ·rw[List.getElem?_set_ne e]
theorem Ctx.f0(c:Ctx σ0 ((b0,o0)::L) σ):σ0 b0=none:=c.frs (b0,o0) (by simp)
theorem Ctx.f1(c:Ctx σ0 ((b0,o0)::(b1,o1)::L) σ):σ0 b1=none:=c.frs (b1,o1) (by simp)
theorem Ctx.g0(c:Ctx σ0 ((b0,o0)::L) σ):σ b0=some o0:=c.mem (b0,o0) (by simp)
theorem Ctx.g1(c:Ctx σ0 ((b0,o0)::(b1,o1)::L) σ):(σ b0=some o0∧σ b1=some o1)∧b0≠b1∧b1≠b0:=by
 have:=c.nod;simp only[List.map_cons,List.nodup_cons,List.mem_cons,not_or]at this;exact⟨⟨c.mem (b0,o0) (by simp),c.mem (b1,o1) (by simp)⟩,this.1.1,Ne.symm this.1.1⟩
theorem Ctx.g2(c:Ctx σ0 ((b0,o0)::(b1,o1)::(b2,o2)::L) σ):(σ b0=some o0∧σ b1=some o1∧σ b2=some o2)∧b0≠b1∧b1≠b0∧b0≠b2∧b2≠b0∧b1≠b2∧b2≠b1:=by
 have:=c.nod;simp only[List.map_cons,List.nodup_cons,List.mem_cons,not_or]at this;exact⟨⟨c.mem (b0,o0) (by simp),c.mem (b1,o1) (by simp),c.mem (b2,o2) (by simp)⟩,this.1.1,Ne.symm this.1.1,this.1.2.1,Ne.symm this.1.2.1,this.2.1.1,Ne.symm this.2.1.1⟩
theorem Ctx.g3(c:Ctx σ0 ((b0,o0)::(b1,o1)::(b2,o2)::(b3,o3)::L) σ):(σ b0=some o0∧σ b1=some o1∧σ b2=some o2∧σ b3=some o3)∧b0≠b1∧b1≠b0∧b0≠b2∧b2≠b0∧b1≠b2∧b2≠b1∧b0≠b3∧b3≠b0∧b1≠b3∧b3≠b1∧b2≠b3∧b3≠b2:=by
 have:=c.nod;simp only[List.map_cons,List.nodup_cons,List.mem_cons,not_or]at this;exact⟨⟨c.mem (b0,o0) (by simp),c.mem (b1,o1) (by simp),c.mem (b2,o2) (by simp),c.mem (b3,o3) (by simp)⟩,this.1.1,Ne.symm this.1.1,this.1.2.1,Ne.symm this.1.2.1,this.2.1.1,Ne.symm this.2.1.1,this.1.2.2.1,Ne.symm this.1.2.2.1,this.2.1.2.1,Ne.symm this.2.1.2.1,this.2.2.1.1,Ne.symm this.2.2.1.1⟩
theorem Ctx.tl{p:Nat×Cj}(c:Ctx σ0 (p::L) σ):Ctx σ0 L σ:=⟨c.sub,fun q hq=>c.frs q (List.mem_cons_of_mem _ hq),fun q hq=>c.mem q (List.mem_cons_of_mem _ hq),(List.nodup_cons.1 c.nod).2⟩
theorem Ctx.alloc(c:Ctx σ0 L σ)(h:∀b σ',Ctx σ0 ((b,o)::L) σ'→k (ptr b) σ'):aNew σ o k:=Ay fun b hb hbn=>h b _ (c.new hb)
theorem Ctx.view(c:Ctx σ0 L σ)(r:AV):Hf σ r σ0 r:=An c.sub
theorem Ctx.abs(c:Ctx σ0 L σ)(i:Nat)(hi:(L[i]?).map Prod.fst=some b)(o':Cj):∃s,σ.set b o'=s∧Ctx σ0 (L.set i (b,o')) s:=⟨_,rfl,c.upd i hi⟩
theorem Ctx.more(c:Ctx σ0 L σ)(h:∀x o,σ x=some o→σ' x=some o):Ctx σ0 L σ':=⟨fun x o hx=>h x o (c.sub x o hx),c.frs,fun p hp=>h _ _ (c.mem p hp),c.nod⟩
end
section
variable{σ σ1:St}{q:Nat}{lv:AV}{es:List (List AV)}{P:Program}{f:FuncId}
theorem Gy{x:Nat}:¬Own (.sl q es) x:=fun⟨n,c,e⟩=>by cases e
theorem A3{x:Nat}:¬Own (.fsl q es) x:=fun⟨n,c,e⟩=>by cases e
theorem B4{x:Nat}:¬Own A4 x:=fun⟨n,c,e⟩=>by cases e
theorem B6{b n c x:Nat}:Own (slv b n c) x↔x=b:=by
 constructor
 ·rintro⟨n',c',e⟩
  simp only[AV.v.injEq,Value.slice.injEq,Option.some.injEq,Addr.mk.injEq]at e;exact e.1.1.symm
 ·rintro rfl;exact⟨_,_,rfl⟩
theorem Adf(h:LAt q σ1 lv es)(hg:Cg σ σ1 lv):VW σ1 σ lv (.sl q es):=h.vw_same fun x hx=>hg.own hx
theorem Gz(h:LAt q σ1 lv es)(hg:Cg σ σ1 lv):Hf σ1 lv σ (.sl q es):=
 view_of (Es fun x o hx=>.inl (hg.sub x o hx)) (Adf h hg)
theorem Mo(h:LAt q σ1 lv es)(hg:Cg σ σ1 lv)(x:AV):Hf σ1 (.tup [lv,x]) σ (.tup [.sl q es,x]):=
 view_of (Es fun x o hx=>.inl (hg.sub x o hx)) (.tup _ _ rfl (vws_cons (Adf h hg) (Bu _)).2)
theorem Gh(h:∀x o,σ x=some o→σ1 x=some o)(x:AV):Hf σ1 (.tup [A4,x]) σ (.tup [.sl q [],x]):=
 view_of (Es fun x o hx=>.inl (h x o hx)) (.tup _ _ rfl (vws_cons (.nil q) (Bu _)).2)
theorem AT.pre{args args':List AV}{Q:AV→St→Prop}(h:AT P f args' σ1 Q)(hn:Vp P f=false)(hS:SV σ σ1)(hw:VWs σ σ1 args args'):AT P f args σ Q:=by
 rcases h with⟨h1,h2⟩|⟨h1,h2⟩
 ·refine .inl ⟨h1,fun F w vs hs hv=>?_⟩
  obtain⟨F',k1,k2,k3⟩:=view_of hS (.tup args args' hw.1 hw.2) F w (.tuple vs.toArray) hs (.tup _ _ (by simpa using hv.1) (fun j hj=>by simpa using hv.2 j hj));have hv':RVs F' w args' vs:=by
   cases k3 with
   |tup _ _ hl hh=>exact⟨by simpa using hl,fun j hj=>by simpa using hh j hj⟩
  exact(h2 F' w vs k2 hv').mono fun e w' ⟨x,F'',σ',r,g1,g2,g3,g4,g5⟩=>⟨x,F'',σ',r,g1,k1.trans g2,g3,g4,g5⟩
 ·rw[hn]at h1;cases h1
end
open Go Go.Av Go.Sort
abbrev u64(n:Nat):AV:=.v (.int .u64 (n:Int))
theorem I4{x:Nat}(h:2≤x):bitsLen x=bitsLen (x/2)+1:=by
 unfold bitsLen;rw[if_neg (by omega),if_neg (by omega),Nat.log2_def,if_pos h]
theorem Nh{x:Nat}(h:256≤x):bitsLen x=bitsLen (x/256)+8:=by
 rw[I4 (by omega),I4 (x:=x/2) (by omega),I4 (x:=x/2/2) (by omega),I4 (x:=x/2/2/2) (by omega),I4 (x:=x/2/2/2/2) (by omega),I4 (x:=x/2/2/2/2/2) (by omega),I4 (x:=x/2/2/2/2/2/2) (by omega),I4 (x:=x/2/2/2/2/2/2/2) (by omega)];rw[show x/2/2/2/2/2/2/2/2=x/256 by omega]
theorem Af3(x k:Nat):((x:Int)).fdiv (2^k)=((x/2^k:Nat):Int):=by
 rw[Int.fdiv_eq_ediv_of_nonneg _ (Int.le_of_lt (Int.pow_pos (by decide)))]
 norm_cast
theorem Aqb{z:Nat}(h:z<256):bitsLen z≤8:=by
 have:∀z,z<256→bitsLen z≤8:=by decide+kernel
 exact this z h
theorem Ad7{z:Nat}(h:z<281474976710656):bitsLen z≤48:=by
 unfold bitsLen;split
 ·omega
 ·rename_i h0
  have:=(Nat.log2_lt (n:=z) (k:=48) (by omega)).2 h;omega
theorem Atq{x:Nat}(h:4294967296≤x):bitsLen x=bitsLen (x/4294967296)+32:=by
 rw[Nh (by omega),Nh (x:=x/256) (by omega),Nh (x:=x/256/256) (by omega),Nh (x:=x/256/256/256) (by omega)];rw[show x/256/256/256/256=x/4294967296 by omega]
def Aq3:List UInt8:=(List.range 256).map fun x=>UInt8.ofNat (bitsLen x)
theorem Akf{z:Nat}(h:z<256)(T:List UInt8)(hT:T=Aq3):(T.getD z 0).toNat=bitsLen z:=by
 subst hT;have:=Aqb h;simp only[Aq3,List.getD_eq_getElem?_getD,List.getElem?_map,List.getElem?_range h,Option.map_some,Option.getD_some];rw[UInt8.toNat_ofNat'];omega
theorem Rn(n:Nat):IntKind.u64.wrap (n:Int)=((n % 18446744073709551616:Nat):Int):=by
 unfold IntKind.wrap;simp[IntKind.bits,IntKind.signed]
theorem ofI(n:Nat):(BitVec.ofInt 64 (n:Int)).toNat=n % 18446744073709551616:=by
 rw[BitVec.ofInt_natCast,BitVec.toNat_ofNat]
theorem xs_l(s:UInt64)(k:Nat)(hk:k<64):IntKind.u64.wrap ((BitVec.ofInt 64 (s.toNat:Int)^^^BitVec.ofInt 64 (IntKind.u64.wrap ((s.toNat:Int)*2^k))).toNat:Int)=(((s^^^s<<<UInt64.ofNat k).toNat:Nat):Int):=by
 have h0:((s.toNat:Int)*2^k)=((s.toNat*2^k:Nat):Int):=by push_cast;rfl
 have h1:=s.toNat_lt;have hk':(UInt64.ofNat k).toNat % 64=k:=by rw[UInt64.toNat_ofNat'];omega
 rw[h0,Rn,Rn,BitVec.toNat_xor,ofI,ofI,UInt64.toNat_xor,UInt64.toNat_shiftLeft,hk',Nat.shiftLeft_eq];rw[Nat.mod_eq_of_lt (a:=s.toNat) (by omega),Nat.mod_mod];rw[Nat.mod_eq_of_lt (Nat.xor_lt_two_pow (n:=64) (by omega) (Nat.mod_lt _ (by decide)))]
theorem xs_r(s:UInt64)(k:Nat)(hk:k<64):IntKind.u64.wrap ((BitVec.ofInt 64 (s.toNat:Int)^^^BitVec.ofInt 64 (((s.toNat:Int)).fdiv (2^k))).toNat:Int)=(((s^^^s>>>UInt64.ofNat k).toNat:Nat):Int):=by
 have h1:=s.toNat_lt;have hk':(UInt64.ofNat k).toNat % 64=k:=by rw[UInt64.toNat_ofNat'];omega
 have h2:s.toNat/2^k≤s.toNat:=Nat.div_le_self _ _;rw[Af3,Rn,BitVec.toNat_xor,ofI,ofI,UInt64.toNat_xor,UInt64.toNat_shiftRight,hk',Nat.shiftRight_eq_div_pow];rw[Nat.mod_eq_of_lt (a:=s.toNat) (by omega),Nat.mod_eq_of_lt (a:=s.toNat/2^k) (by omega)];rw[Nat.mod_eq_of_lt (Nat.xor_lt_two_pow (n:=64) (by omega) (by omega))]
section
variable{σ:St}
theorem Ake{x:Nat}(h:x<281474976710656):AT Tryz.prog 208 [u64 x] σ fun r σ'=>r=int (bitsLen x)∧σ'=σ:=by
 refine AT.ob Tryz.func208 rfl ?_;simp only[go_sem];refine C0 (fun fr σ'=>∃y k:Nat,y<4294967296∧k≤32∧bitsLen x=bitsLen y+k∧fr 0=u64 y∧fr 2=int k∧σ'=σ) (fun g1=>?_) (fun g1=>?_) ?_
 ·have e1:((x:Int)).fdiv (2^min 32 64)=((x/4294967296:Nat):Int):=Af3 x 32
  simp only[go_sem,e1];exact⟨x/4294967296,32,by omega,by omega,Atq (by omega),rfl,rfl⟩
 ·simp only[go_sem]
  exact⟨x,0,by omega,by omega,rfl,rfl,rfl⟩
 rintro fr σ1 ⟨w,k0,hw,hk0,he0,f0,f2,rfl⟩;rw[he0];clear h he0;simp only[go_sem,f0,f2];refine C0 (fun fr σ'=>∃y k:Nat,y<65536∧k≤48∧bitsLen w+k0=bitsLen y+k∧fr 0=u64 y∧fr 2=int k∧σ'=σ1) (fun g1=>?_) (fun g1=>?_) ?_
 ·have e1:((w:Int)).fdiv (2^min 16 64)=((w/65536:Nat):Int):=Af3 w 16
  have e2:IntKind.i64.wrap ((k0:Int)+16)=((k0+16:Nat):Int):=by rw[Am (by omega)];omega
  simp only[go_sem,f0,f2,e1,e2];refine⟨w/65536,k0+16,by omega,by omega,?_,rfl,rfl⟩;rw[Nh (by omega),Nh (x:=w/256) (by omega),show w/256/256=w/65536 by omega];omega
 ·simp only[go_sem,f0,f2]
  exact⟨w,k0,by omega,by omega,rfl,rfl,rfl⟩
 rintro fr σ1 ⟨y,k,hy,hk,he,f0,f2,rfl⟩;rw[he];clear he;simp only[go_sem,f0,f2];refine C0 (fun fr σ'=>∃z l:Nat,z<256∧l≤56∧bitsLen y+k=bitsLen z+l∧fr 0=u64 z∧fr 2=int l∧σ'=σ1) (fun g1=>?_) (fun g1=>?_) ?_
 ·have e1:((y:Int)).fdiv (2^min 8 64)=((y/256:Nat):Int):=Af3 y 8
  have e2:IntKind.i64.wrap ((k:Int)+8)=((k+8:Nat):Int):=by rw[Am (by omega)];omega
  simp only[go_sem,f0,f2,e1,e2];refine⟨y/256,k+8,by omega,by omega,?_,rfl,rfl⟩;rw[Nh (by omega)];omega
 ·simp only[go_sem,f0,f2]
  exact⟨y,k,by omega,by omega,rfl,rfl,rfl⟩
 rintro fr σ2 ⟨z,l,hz,hl,he,f0,f2,rfl⟩;rw[he];have e3:IntKind.u8.wrap (z:Int)=(z:Int):=Aux (by omega);simp only[go_sem,f0,f2,e3];refine⟨Int.lt_of_lt_of_le (show(z:Int)<256 by omega) (by decide+kernel),_,rfl,_,_,Hf.refl _ _,?_,rfl⟩;refine(congrArg (fun v:Nat=>AV.v (Value.int .i64 (IntKind.i64.wrap ((l:Int)+IntKind.i64.wrap (v:Int))))) (Akf hz _ (by kernel_rfl))).trans ?_;have:=Aqb hz;show int (IntKind.i64.wrap ((l:Int)+IntKind.i64.wrap ((bitsLen z:Nat):Int)))=_;rw[Am (x:=((bitsLen z:Nat):Int)) (by omega),Am (by omega)];show AV.v (Value.int .i64 ((l:Int)+(bitsLen z:Nat)))=AV.v (Value.int .i64 ((bitsLen z+l:Nat):Int));rw[Int.natCast_add,Int.add_comm]
theorem Xm{x:Nat}(h:x<281474976710656):AT Tryz.prog 162 [u64 x] σ fun r σ'=>r=int (bitsLen x)∧σ'=σ:=by
 refine AT.ob Tryz.func162 rfl ?_;simp only[go_sem];refine(Ake h).p ?_;simp only[go_sem];exact Ae (r:=int (bitsLen x)) rfl ⟨rfl,rfl⟩
theorem Api{x:Nat}(h:x<281474976710656):AT Tryz.prog 229 [int x] σ fun r σ'=>r=u64 (1<<<bitsLen x)∧σ'=σ:=by
 refine AT.ob Tryz.func229 rfl ?_;have e1:IntKind.u64.wrap (x:Int)=(x:Int):=by
  unfold IntKind.wrap;simp[IntKind.bits,IntKind.signed];omega
 simp only[go_sem,e1];refine(Xm h).p ?_;have hb:=Ad7 h;have e2:IntKind.u64.wrap (1*2^min (bitsLen x) 64)=((1<<<bitsLen x:Nat):Int):=by
  rw[Nat.min_eq_left (by omega),Nat.one_shiftLeft];have h1:2^bitsLen x≤2^48:=Nat.pow_le_pow_right (by decide) hb;have h2:(1:Int)*2^bitsLen x=((2^bitsLen x:Nat):Int):=by push_cast;omega
  rw[h2,Rn];generalize 2^bitsLen x=y at h1⊢;omega
 simp only[go_sem,e2];exact Ae (r:=u64 (1<<<bitsLen x)) rfl ⟨rfl,rfl⟩
theorem Apc{p:Nat}{s:UInt64}(hp:σ p=some (.cells [u64 s.toNat])):AT Tryz.prog 230 [.v (.pointer (some ⟨p,0,none⟩))] σ fun r σ'=>r=u64 (xorNext s).toNat∧σ'=σ.set p (.cells [u64 (xorNext s).toNat]):=by
 refine AT.ob Tryz.func230 rfl ?_;have e:xorNext s=((s^^^s<<<13)^^^(s^^^s<<<13)>>>7)^^^((s^^^s<<<13)^^^(s^^^s<<<13)>>>7)<<<17:=rfl;rw[e];simp only[go_sem];refine Af [.rd 0 false,.rd 1 false,.rd 2 true,.rd 3 false,.rd 4 false,.rd 5 true,.rd 6 false,.rd 7 false,.rd 8 false,.ef 9 []] ?_;have a1:∀s:UInt64,bxor .u64 (s.toNat:Int) (IntKind.u64.wrap ((s.toNat:Int)*2^min 13 64))=(((s^^^s<<<13).toNat:Nat):Int):=fun s=>xs_l s 13 (by decide);have a2:∀s:UInt64,bxor .u64 (s.toNat:Int) (((s.toNat:Int)).fdiv (2^min 7 64))=(((s^^^s>>>7).toNat:Nat):Int):=fun s=>xs_r s 7 (by decide);have a3:∀s:UInt64,bxor .u64 (s.toNat:Int) (IntKind.u64.wrap ((s.toNat:Int)*2^min 17 64))=(((s^^^s<<<17).toNat:Nat):Int):=fun s=>xs_l s 17 (by decide);simp only[go_sem,hp,a1];refine Af [.rd 0 false,.rd 1 false,.rd 2 true,.rd 3 false,.rd 4 false,.rd 5 true,.rd 6 false,.rd 7 false,.rd 8 false,.ef 9 []] ?_;simp only[go_sem,Ab,a2];refine Af [.rd 0 false,.rd 1 false,.rd 2 true,.rd 3 false,.rd 4 false,.rd 5 true,.rd 6 false,.rd 7 false,.rd 8 false,.ef 9 []] ?_;simp only[go_sem,Ab,a3];exact Ae (r:=u64 _) rfl ⟨rfl,rfl⟩
end
section
variable{ag byt:Bool}{sz q eby b n c l h:Nat}{zr ez:List Value}{ik:IntKind}{σ:St}{K:AV→Prop}{k:AV→St→Prop}
theorem B2{p:Nat}(hp:p=l*q)(h0:l≤n)(hn:n≤c)(hlc:l<c)(hk:K (.v (.slice (some ⟨b,p,none⟩) (n-l) (c-l)))):aSli (some ⟨ag,sz,zr,.sl q eby ez byt⟩) σ (slv b n c) (some (.v (.int ik l))) .none .none K:=by
 subst hp;refine .inl ⟨b,0,n,c,rfl,l,n,c,rfl,rfl,.inl ⟨rfl,rfl⟩,by omega,by omega,by omega,by omega,?_⟩;have e:Gn (c:Int).toNat (l:Int).toNat 0 q=l*q:=by
  unfold Gn;rw[if_neg (by simp;omega)];simp
 rw[e];simpa using hk
theorem Pv(h0:h≤n)(hn:n≤c)(hk:K (slv b h c)):aSli (some ⟨ag,sz,zr,.sl q eby ez byt⟩) σ (slv b n c) .none (some (.v (.int ik h))) .none K:=by
 refine .inl ⟨b,0,n,c,rfl,0,h,c,rfl,rfl,.inl ⟨rfl,rfl⟩,by omega,by omega,by omega,by omega,?_⟩;have e:Gn (c:Int).toNat (0:Int).toNat 0 q=0:=by
  unfold Gn;split<;>simp
 rw[e];simpa using hk
theorem Ox{m cc p:Nat}{j:Int}(hp:p=l*q)(hq:0<q)(h0:0≤j)(h1:j<m)(hk:K (.rp b q (l+j.toNat) 0)):Fs (some ⟨ag,sz,zr,.sl q eby ez byt⟩) σ (.v (.slice (some ⟨b,p,none⟩) m cc)) (.v (.int ik j)) K:=by
 subst hp;show(l*q)% q=0∧0≤j∧j<m∧K (.rp b q (l*q/q+j.toNat) 0);rw[Nat.mul_mod_left,Nat.mul_div_cancel _ hq];exact⟨rfl,h0,h1,hk⟩
theorem Mc{m cc cap p:Nat}{es:List (List AV)}(hp:p=l*q)(hb:σ b=some (.rows q es false cap))(hq:0<q)(hm:0<m)(hl:l+m≤es.length)(hz:ez.all Value.oneCell'=true)(hk:k (.tup []) (σ.set b (.rows q (es.take l++List.replicate m (ez.map .v)++es.drop (l+m)) false cap))):
  aClear (some ⟨ag,sz,zr,.sl q eby ez byt⟩) σ (.v (.slice (some ⟨b,p,none⟩) m cc)) k:=by
 subst hp;simp only[aClear];rw[if_neg (by omega)];simp only[hb,Nat.mul_div_cancel _ hq];exact⟨trivial,hq,Nat.mul_mod_left _ _,hl,hz,hk⟩
theorem Mu{es:List (List AV)}{cap m:Nat}(r:AV)(hb:σ b=some (.rows q es false cap)):Hf σ r (σ.set b (.rows q (es.take m) false cap)) r:=fun F w x hs hv=>by
 refine⟨F,⟨.refl F w,rfl,rfl,rfl,Nat.le_refl _,fun y _ hy=>⟨rfl,?_,rfl⟩⟩,⟨fun y o hy=>?_,hs.lt⟩,hv⟩
 ·rw[Ag (fun e=>by rw[e,hb]at hy;cases hy)];exact hy
 ·by_cases e:y=b
  ·subst e
   rw[Ab]at hy;injection hy with hy;subst hy;obtain⟨c,e,m',g1,g2,g3,g4,g5,g6,g7⟩:=hs.obj y _ hb;refine⟨c,e,m',g1,g2,by simp;omega,fun x hx=>g4 x (List.mem_of_mem_take hx),g5,g6,fun i j hi hj=>?_⟩;have hi':i<es.length:=by simp at hi;omega
   have:(es.take m).getD i []=es.getD i []:=by
    simp only[List.getD_eq_getElem?_getD];rw[List.getElem?_take_of_lt (by simp at hi;omega)]
   rw[this];exact g7 i j hi' hj
  ·rw[Ag e]at hy
   exact hs.obj y o hy
end
def Jp{α:Type}(e:α→α→Bool):α→List α→List α
 |_,[]=>[]
 |p,y::l=>if e y p=true then Jp e y l else y::Jp e y l
def Gm{α:Type}(e:α→α→Bool):List α→List α
 | []=>[]
 |x::l=>x::Jp e x l
theorem Jq{α:Type}{e:α→α→Bool}{p y:α}{l:List α}:Jp e p (y::l)=if e y p=true then Jp e y l else y::Jp e y l:=rfl
theorem Ab2{α:Type}{e:α→α→Bool}{l:List α}(h:0<l.length):Gm e l=l.take 1++Jp e l[0] (l.drop 1):=by
 cases l with
 |nil=>simp at h
 |cons x l=>rfl
theorem Ab1{α:Type}{e:α→α→Bool}{l:List α}(h:l.length<2):Gm e l=l:=by
 match l,h with
 | [],_=>rfl
 | [x],_=>rfl
 |x::y::l,h=>simp at h;omega
theorem Zb{α:Type}(e:α→α→Bool):∀(l:List α) (p:α),(Jp e p l).length≤l.length
 | [],_=>by simp[Jp]
 |y::l,p=>by
  unfold Jp;have:=Zb e l y;split<;>simp only[List.length_cons]<;>omega
theorem S1{α:Type}(e:α→α→Bool)(l:List α):(Gm e l).length≤l.length:=by
 cases l with
 |nil=>simp[Gm]
 |cons x l=>have:=Zb e l x;simp only[Gm,List.length_cons];omega
section
variable{σ:St}
theorem Acp(g:Nat):AT Tryz.prog 199 [A4,int 0,int 0,fnv g] σ fun _ σ'=>σ'=σ:=by
 refine AT.ob Tryz.func199 rfl ?_;have w:IntKind.i64.wrap (0+1)=1:=by rw[Am (by omega)];rfl
 simp only[go_sem,Aa,w];refine Jj 1 ?_;simp only[go_sem,Aa];exact Ae (r:=.tup []) rfl rfl
theorem Ac9(g:Nat)(lim:Nat):AT Tryz.prog 161 [A4,int 0,int 0,int lim,fnv g] σ fun _ σ'=>σ'=σ:=by
 refine AT.ob Tryz.func161 rfl ?_;have w:IntKind.i64.wrap (0-0)=0:=by rw[Am (by omega)];rfl
 simp only[go_sem,Aa];refine Jj 1 ?_;simp only[go_sem,Aa,w];refine(Acp g).mono ?_;rintro _ _ rfl;simp only[go_sem,Aa];exact Ae (r:=.tup []) rfl rfl
theorem Aa9(g:Nat):AT Tryz.prog 102 [A4,fnv g] σ fun _ σ'=>σ'=σ:=by
 refine AT.ob Tryz.func102 rfl ?_;have w1:IntKind.u64.wrap (0:Int)=(0:Int):=by simp[IntKind.wrap,IntKind.signed,IntKind.bits]
 simp only[go_sem,w1];refine(Xm (x:=0) (by omega)).p ?_;simp only[go_sem];refine(Ac9 g _).mono ?_;rintro _ _ rfl;simp only[go_sem];exact Ae (r:=.tup []) rfl rfl
end
def Fh(x y:ByteArray):Int:=if Op.bytesLess x.toList y.toList=true then-1 else if x=y then 0 else 1
section
variable{σ:St}
theorem Afe(x:ByteArray):AT Tryz.prog 213 [str x] σ fun r σ'=>r=boo false∧σ'=σ:=by
 refine AT.ob Tryz.func213 rfl ?_;simp only[go_sem];exact Ae (r:=boo false) rfl ⟨rfl,rfl⟩
theorem Ry(x y:ByteArray):AT Tryz.prog 168 [str x,str y] σ fun r σ'=>r=int (Fh x y)∧σ'=σ:=by
 refine AT.ob Tryz.func168 rfl ?_;simp only[go_sem];refine(Afe x).p ?_;simp only[go_sem];refine(Afe y).p ?_;simp only[go_sem];refine aIf_bool (fun h1=>?_) (fun h1=>?_)
 ·simp only[go_sem]
  exact Ae (r:=int (-1)) rfl ⟨by unfold Fh;rw[if_pos h1],rfl⟩
 ·by_cases h2:x=y
  ·have e:(Op.bytesLess x.toList y.toList||decide (x=y))=true:=by rw[decide_eq_true h2];simp
   simp only[go_sem,e,Bool.not_true];exact Ae (r:=int 0) rfl ⟨by unfold Fh;rw[if_neg (by rw[h1];decide),if_pos h2],rfl⟩
  ·have e:(Op.bytesLess x.toList y.toList||decide (x=y))=false:=by rw[decide_eq_false h2,h1];rfl
   simp only[go_sem,e,Bool.not_false];exact Ae (r:=int 1) rfl ⟨by unfold Fh;rw[if_neg (by rw[h1];decide),if_neg h2],rfl⟩
def Hr(x y:Int):Int:=if x<y then-1 else if x=y then 0 else 1
theorem Afd(x:Int):AT Tryz.prog 225 [int x] σ fun r σ'=>r=boo false∧σ'=σ:=by
 refine AT.ob Tryz.func225 rfl ?_;simp only[go_sem];exact Ae (r:=boo false) rfl ⟨rfl,rfl⟩
theorem Aea(x y:Int):AT Tryz.prog 179 [int x,int y] σ fun r σ'=>r=int (Hr x y)∧σ'=σ:=by
 refine AT.ob Tryz.func179 rfl ?_;simp only[go_sem];refine(Afd x).p ?_;simp only[go_sem];refine(Afd y).p ?_;simp only[go_sem];refine aIf_by (fun h1=>?_) (fun h1=>?_)
 ·simp only[go_sem]
  exact Ae (r:=int (-1)) rfl ⟨by unfold Hr;rw[if_pos h1],rfl⟩
 ·simp only[go_sem]
  refine aIf_by (fun h2=>?_) (fun h2=>?_)
  ·simp only[go_sem]
   exact Ae (r:=int 1) rfl ⟨by unfold Hr;rw[if_neg h1,if_neg (by omega)],rfl⟩
  ·simp only[go_sem]
   exact Ae (r:=int 0) rfl ⟨by unfold Hr;rw[if_neg h1,if_pos (by omega)],rfl⟩
def orI:List Int→Int
 | []=>0
 |x::l=>if x=0 then orI l else x
theorem Ald(l:List Int)(hl:l.length≤1000000):AT Tryz.prog 167 [.fsl 1 (inC l)] σ fun r σ'=>r=int (orI l)∧σ'=σ:=by
 refine AT.ob Tryz.func167 rfl ?_;simp only[go_sem,Aa];refine⟨fun m fr σ'=>∃i:Nat,m=l.length-i∧i≤l.length∧σ'=σ∧orI (l.drop i)=orI l∧fr 3=int 0∧fr 6= .fsl 1 (inC l)∧fr 7=int l.length∧fr 8=int i,⟨_,0,rfl,by omega,rfl,rfl,rfl,rfl,rfl,rfl⟩,?_⟩;rintro m fr σ' ⟨i,rfl,hi,rfl,hI,f3,f6,f7,f8⟩;simp only[go_sem,f7,f8];refine aIf_by (fun hlt=>?_) (fun hlt=>?_)
 ·have hil:i<l.length:=by omega
  have e:l.drop i=l[i]::l.drop (i+1):=List.drop_eq_getElem_cons hil;have e2:orI (l[i]::l.drop (i+1))=if l[i]=0 then orI (l.drop (i+1))else l[i]:=rfl
  rw[e,e2]at hI;simp only[go_sem,Aa,f3,f6,f8,Xj hil];refine⟨by omega,aIf_by (fun h0=>?_) (fun h0=>?_)⟩
  ·rw[if_pos h0]at hI
   simp only[go_sem,f3,f6,f7,f8,As i (by omega)];exact⟨l.length-(i+1),by omega,i+1,rfl,by omega,hI,rfl⟩
  ·rw[if_neg h0]at hI
   simp only[go_sem];rw[←hI];exact Ae (r:=int _) rfl ⟨rfl,rfl⟩
 ·simp only[go_sem,f3]
  rw[←hI,List.drop_of_length_le (by omega)];exact Ae (r:=int 0) rfl ⟨rfl,rfl⟩
end
structure Cn where
 b:Bool
 n:Int
 s:ByteArray
deriving DecidableEq
def Cn.cs(c:Cn):List AV:=[boo c.b,int c.n,str c.s]
@[go_sem] theorem Cn.len(c:Cn):c.cs.length=3:=rfl
@[go_sem] theorem Cn.one(c:Cn):c.cs.all AV.one=true:=rfl
@[go_sem] theorem Cn.take(c:Cn):c.cs.take 3=c.cs:=rfl
@[go_sem] theorem Cn.at0(c:Cn):c.cs.getD 0 (.v undef)=boo c.b:=rfl
@[go_sem] theorem Cn.at1(c:Cn):c.cs.getD 1 (.v undef)=int c.n:=rfl
@[go_sem] theorem Cn.at2(c:Cn):c.cs.getD 2 (.v undef)=str c.s:=rfl
def Hw(x y:Cn):Int:=if x.b=y.b then orI [Hr x.n y.n,Fh x.s y.s]else if x.b=true then-1 else 1
section
variable{σ:St}
theorem Amv(x y:Cn):AT Tryz.prog 170 [.agg x.cs,.agg y.cs] σ fun r σ'=>r=int (Hw x y)∧σ'=σ:=by
 refine AT.ob Tryz.func170 rfl ?_;simp only[go_sem];refine Ay fun p hp hpn=>?_;simp only[go_sem];refine Ay fun q hq hqn=>?_;have hpq:p≠q:=hqn p _ Ab;have h1:((σ.set p (.cells x.cs)).set q (.cells y.cs)) p=some (.cells x.cs):=by rw[Ag hpq];exact Ab
 have h2:((σ.set p (.cells x.cs)).set q (.cells y.cs)) q=some (.cells y.cs):=Ab;have hd:∀r,Hf ((σ.set p (.cells x.cs)).set q (.cells y.cs)) r σ r:=fun r=>An fun z o hz=>B7 hq (fun _ _ h=>h) z o (B7 hp (fun _ _ h=>h) z o hz);revert h1 h2 hd;generalize (σ.set p (.cells x.cs)).set q (.cells y.cs)=σ1;intro h1 h2 hd;by_cases hb:x.b=y.b
 ·have e:decide (¬x.b=y.b)=false:=decide_eq_false fun h=>h hb
  simp only[go_sem,h1,h2,e];refine Af [.rd 0 false,.rd 1 true,.rd 2 false,.rd 3 true,.rd 5 false,.rd 6 true,.rd 7 false,.rd 8 true,.ef 4 [6,8],.ef 9 [],.rd 10 false,.ef 11 [],.rd 12 false] ?_;simp only[go_sem,h1,h2];refine(Aea x.n y.n).p ?_;simp only[go_sem,h1,h2];refine(Ry x.s y.s).p ?_;simp only[go_sem];refine(Ald [Hr x.n y.n,Fh x.s y.s] (by simp)).p ?_;simp only[go_sem];exact Ad (r:=int _) rfl _ σ (hd _) ⟨by unfold Hw;rw[if_pos hb],rfl⟩
 ·have e:decide (¬x.b=y.b)=true:=decide_eq_true hb
  simp only[go_sem,h1,h2,e];refine aIf_bool (fun g=>?_) (fun g=>?_)
  ·simp only[go_sem]
   exact Ad (r:=int (-1)) rfl _ σ (hd _) ⟨by unfold Hw;rw[if_neg hb,if_pos g],rfl⟩
  ·simp only[go_sem]
   exact Ad (r:=int 1) rfl _ σ (hd _) ⟨by unfold Hw;rw[if_neg hb,if_neg (by rw[g];decide)],rfl⟩
end
def cnC(l:List Cn):List (List AV):=l.map Cn.cs
@[go_sem] theorem Hy(l:List Cn):(cnC l).length=l.length:=by simp[cnC]
theorem Gd{l:List Cn}{i:Nat}(h:i<l.length):(cnC l).getD i []=l[i].cs:=by simp[cnC,List.getD_eq_getElem?_getD,h]
def D4{α:Type}(c:α→α→Int):List α→List α→Int
 | [],[]=>0
 | [],_::_=> -1
 |_::_,[]=>1
 |x::l,y::k=>if c x y=0 then D4 c l k else c x y
section
variable{σ:St}
theorem Aiq(l k:List Cn)(hl:l.length≤1000000000000)(hk:k.length≤1000000000000):AT Tryz.prog 169 [.sl 3 (cnC l),.sl 3 (cnC k),fnv 170] σ fun r σ'=>r=int (D4 Hw l k)∧σ'=σ:=by
 refine AT.ob Tryz.func169 rfl ?_;simp only[go_sem,Aa];refine⟨fun m fr σ'=>∃i:Nat,m=l.length-i∧i≤l.length∧i≤k.length∧(∀x o,σ x=some o→σ' x=some o)∧D4 Hw (l.drop i) (k.drop i)=D4 Hw l k∧fr 0= .sl 3 (cnC l)∧fr 1= .sl 3 (cnC k)∧fr 2=fnv 170∧fr 11= .sl 3 (cnC l)∧fr 12=int l.length∧fr 13=int i,⟨_,0,rfl,by omega,by omega,fun _ _ h=>h,rfl,rfl,rfl,rfl,rfl,rfl,rfl⟩,?_⟩;rintro m fr σ1 ⟨i,rfl,h1,h2,hs,hI,f0,f1,f2,f11,f12,f13⟩;simp only[go_sem,f12,f13];refine aIf_by (fun hlt=>?_) (fun hlt=>?_)
 ·have hil:i<l.length:=by omega
  have e1:l.drop i=l[i]::l.drop (i+1):=List.drop_eq_getElem_cons hil;rw[e1]at hI;simp only[go_sem,Aa,f11,f13,Gd hil];refine⟨by omega,Ay fun p hp hpn=>?_⟩;simp only[go_sem,f1,f11,f13];refine aIf_by (fun hge=>?_) (fun hge=>?_)
  ·have e2:k.drop i=[]:=List.drop_of_length_le (by omega)
   rw[e2]at hI;simp only[go_sem];rw[←hI];exact Ad (r:=int 1) rfl _ σ (An fun x o hx=>by rw[Ag (hpn x o (hs x o hx))];exact hs x o hx) ⟨rfl,rfl⟩
  ·have hik:i<k.length:=by omega
   have e2:k.drop i=k[i]::k.drop (i+1):=List.drop_eq_getElem_cons hik;rw[e2]at hI;have e3:D4 Hw (l[i]::l.drop (i+1)) (k[i]::k.drop (i+1))=if Hw l[i] k[i]=0 then D4 Hw (l.drop (i+1)) (k.drop (i+1))else Hw l[i] k[i]:=rfl
   rw[e3]at hI;simp only[go_sem,f1,f13,Gd hik,Ab];refine⟨by omega,Ay fun q hq hqn=>?_⟩;have hpq:p≠q:=hqn p _ Ab;have k1:((σ1.set p (.cells l[i].cs)).set q (.cells k[i].cs)) p=some (.cells l[i].cs):=by rw[Ag hpq];exact Ab
   have k2:((σ1.set p (.cells l[i].cs)).set q (.cells k[i].cs)) q=some (.cells k[i].cs):=Ab;have k3:∀x o,σ x=some o→((σ1.set p (.cells l[i].cs)).set q (.cells k[i].cs)) x=some o:=fun x o hx=>by
    have hq0:x≠q:=hqn x o (B7 hp (fun _ _ h=>h) x o (hs x o hx));rw[Ag hq0,Ag (hpn x o (hs x o hx))];exact hs x o hx
   simp only[go_sem,Ab];revert k1 k2 k3;generalize (σ1.set p (.cells l[i].cs)).set q (.cells k[i].cs)=σ2;intro k1 k2 k3;simp only[go_sem,k1,k2,f2];refine(Amv l[i] k[i]).p ?_;simp only[go_sem];refine aIf_by (fun h0=>?_) (fun h0=>?_)
   ·rw[if_pos h0]at hI
    simp only[go_sem,f0,f1,f2,f11,f12,f13,As i (by omega)];exact⟨l.length-(i+1),by omega,i+1,rfl,by omega,by omega,k3,hI,rfl⟩
   ·rw[if_neg h0]at hI
    simp only[go_sem];rw[←hI];exact Ad (r:=int _) rfl _ σ (An k3) ⟨rfl,rfl⟩
 ·have e1:l.drop i=[]:=List.drop_of_length_le (by omega)
  rw[e1]at hI;simp only[go_sem,f0,f1];refine aIf_by (fun h0=>?_) (fun h0=>?_)
  ·obtain⟨y,t,e2⟩:∃y t,k.drop i=y::t:=⟨k[i]'(by omega),k.drop (i+1),List.drop_eq_getElem_cons (by omega)⟩
   rw[e2]at hI;simp only[go_sem];rw[←hI];exact Ad (r:=int (-1)) rfl _ σ (An hs) ⟨rfl,rfl⟩
  ·have e2:k.drop i=[]:=List.drop_of_length_le (by omega)
   rw[e2]at hI;simp only[go_sem];rw[←hI];exact Ad (r:=int 0) rfl _ σ (An hs) ⟨rfl,rfl⟩
end
structure Fa where
 at':ByteArray
 by':ByteArray
 pr:ByteArray
 ar:List Cn
def Fa.cs(f:Fa):List AV:=[str f.at',str f.by',str f.pr,.sl 3 (cnC f.ar)]
@[go_sem] theorem Fa.len(f:Fa):f.cs.length=4:=rfl
@[go_sem] theorem Fa.one(f:Fa):f.cs.all AV.one=true:=rfl
@[go_sem] theorem Fa.take(f:Fa):f.cs.take 4=f.cs:=rfl
@[go_sem] theorem Fa.at0(f:Fa):f.cs.getD 0 (.v undef)=str f.at':=rfl
@[go_sem] theorem Fa.at1(f:Fa):f.cs.getD 1 (.v undef)=str f.by':=rfl
@[go_sem] theorem Fa.at2(f:Fa):f.cs.getD 2 (.v undef)=str f.pr:=rfl
@[go_sem] theorem Fa.at3(f:Fa):f.cs.getD 3 (.v undef)= .sl 3 (cnC f.ar):=rfl
def Ai(x y:Fa):Int:=orI [Fh x.at' y.at',Fh x.by' y.by',Fh x.pr y.pr,D4 Hw x.ar y.ar]
section
variable{σ:St}
theorem I5(x y:Fa)(hx:x.ar.length≤1000000000000)(hy:y.ar.length≤1000000000000):AT Tryz.prog 112 [.agg x.cs,.agg y.cs] σ fun r σ'=>r=int (Ai x y)∧σ'=σ:=by
 refine AT.ob Tryz.func112 rfl ?_;simp only[go_sem];refine Ay fun p hp hpn=>?_;simp only[go_sem];refine Ay fun q hq hqn=>?_;have hpq:p≠q:=hqn p _ Ab;have h1:((σ.set p (.cells x.cs)).set q (.cells y.cs)) p=some (.cells x.cs):=by rw[Ag hpq];exact Ab
 have h2:((σ.set p (.cells x.cs)).set q (.cells y.cs)) q=some (.cells y.cs):=Ab;have hd:∀r,Hf ((σ.set p (.cells x.cs)).set q (.cells y.cs)) r σ r:=fun r=>An fun z o hz=>B7 hq (fun _ _ h=>h) z o (B7 hp (fun _ _ h=>h) z o hz);revert h1 h2 hd;generalize (σ.set p (.cells x.cs)).set q (.cells y.cs)=σ1;intro h1 h2 hd;simp only[go_sem];refine Af [.rd 0 false,.rd 1 true,.rd 2 false,.rd 3 true,.rd 5 false,.rd 6 true,.rd 7 false,.rd 8 true,.rd 10 false,.rd 11 true,.rd 12 false,.rd 13 true,.rd 15 false,.rd 16 true,.rd 17 false,.rd 18 true,.ef 4 [6,8,11,13,16,18],.ef 9 [11,13,16,18],.ef 14 [16,18],.ef 19 [],.rd 20 false,.ef 21 [],.rd 22 false] ?_;simp only[go_sem,h1,h2];refine(Ry x.at' y.at').p ?_;simp only[go_sem,h1,h2];refine(Ry x.by' y.by').p ?_;simp only[go_sem,h1,h2];refine(Ry x.pr y.pr).p ?_;simp only[go_sem,h1,h2];refine(Aiq x.ar y.ar hx hy).p ?_;simp only[go_sem];refine(Ald [Fh x.at' y.at',Fh x.by' y.by',Fh x.pr y.pr,D4 Hw x.ar y.ar] (by simp)).p ?_;simp only[go_sem];exact Ad (r:=int _) rfl _ σ (hd _) ⟨rfl,rfl⟩
end
structure Gp{α:Type}(c:α→α→Int):Prop where
 zero:∀x y,c x y=0↔x=y
 anti:∀x y,c x y<0↔0<c y x
 trans:∀x y z,c x y<0→c y z<0→c x z<0
theorem Gp.self{α:Type}{c:α→α→Int}(h:Gp c)(x:α):c x x=0:=(h.zero x x).2 rfl
theorem Gp.swo{α:Type}{c:α→α→Int}(h:Gp c):Go.Sort.SWO (ltc c) where
 irrefl x:=by unfold ltc;rw[h.self];rfl
 trans x y z h1 h2:=by
  unfold ltc at*;simp only[decide_eq_true_eq]at*;exact h.trans x y z h1 h2
 ntrans x y z h1 h2:=by
  unfold ltc at*;simp only[decide_eq_false_iff_not]at*;intro h3;by_cases e1:c x y=0
  ·rw[(h.zero x y).1 e1]at h3;exact h2 h3
  ·by_cases e2:c y z=0
   ·rw[←(h.zero y z).1 e2]at h3;exact h1 h3
   ·have a1:c y x<0:=(h.anti y x).2 (by omega)
    have a2:c z y<0:=(h.anti z y).2 (by omega);have a3:=h.trans z y x a2 a1;have:=(h.anti z x).1 a3;omega
theorem Jo:Gp Hr where
 zero x y:=by unfold Hr;repeat' split
              all_goals omega
 anti x y:=by unfold Hr;repeat' split
              all_goals omega
 trans x y z:=by unfold Hr;repeat' split
                 all_goals omega
theorem Mb:∀x:List UInt8,Op.bytesLess x x=false
 | []=>rfl
 |a::x=>by
  unfold Op.bytesLess;rw[Mb x];simp
theorem Sr:∀x y z:List UInt8,Op.bytesLess x y=true→Op.bytesLess y z=true→Op.bytesLess x z=true
 |_,[],_,h,_=>by unfold Op.bytesLess at h;cases h
 |_,_::_,[],_,h=>by unfold Op.bytesLess at h;cases h
 | [],_::_,_::_,_,_=>by unfold Op.bytesLess;rfl
 |a::x,b::y,c::z,h1,h2=>by
  unfold Op.bytesLess at*;simp only[Bool.or_eq_true,Bool.and_eq_true,decide_eq_true_eq,beq_iff_eq]at*;rcases h1 with h1|⟨rfl,h1⟩
  ·rcases h2 with h2|⟨rfl,h2⟩
   ·exact .inl (UInt8.lt_trans h1 h2)
   ·exact .inl h1
  ·rcases h2 with h2|⟨rfl,h2⟩
   ·exact .inl h2
   ·exact .inr ⟨rfl,Sr x y z h1 h2⟩
theorem Y1:∀x y:List UInt8,x=y∨Op.bytesLess x y=true∨Op.bytesLess y x=true
 | [],[]=>.inl rfl
 | [],_::_=>.inr (.inl (by unfold Op.bytesLess;rfl))
 |_::_,[]=>.inr (.inr (by unfold Op.bytesLess;rfl))
 |a::x,b::y=>by
  unfold Op.bytesLess;simp only[Bool.or_eq_true,Bool.and_eq_true,decide_eq_true_eq,beq_iff_eq];rcases UInt8.lt_or_lt_of_ne (a:=a) (b:=b)|>(fun f=>Classical.em (a=b)|>.elim (fun h=>Or.inl h) fun h=>Or.inr (f h))with h|h
  ·subst h
   rcases Y1 x y with h|h|h
   ·exact .inl (by rw[h])
   ·exact .inr (.inl (.inr ⟨rfl,h⟩))
   ·exact .inr (.inr (.inr ⟨rfl,h⟩))
  ·rcases h with h|h
   ·exact .inr (.inl (.inl h))
   ·exact .inr (.inr (.inl h))
theorem toList_inj{x y:ByteArray}(h:x.toList=y.toList):x=y:=by
 have:=Uj x y;rw[h,beq_self_eq_true]at this;exact of_decide_eq_true this.symm
theorem Me{x y:ByteArray}:Fh x y<0↔Op.bytesLess x.toList y.toList=true:=by
 unfold Fh;split
 ·rename_i h;simp[h]
 ·rename_i h;split<;>simp[h]
theorem Ek{x y:ByteArray}:Fh x y=0↔x=y:=by
 unfold Fh;split
 ·rename_i h
  constructor
  ·intro h';omega
  ·rintro rfl;rw[Mb]at h;cases h
 ·split
  ·rename_i h;simp[h]
  ·rename_i h;simp[h]
theorem Hj:Gp Fh where
 zero x y:=Ek
 anti x y:=by
  rw[Me];constructor
  ·intro h
   have h1:¬Fh y x<0:=fun h'=>by
    have:=Sr _ _ _ h (Me.1 h');rw[Mb]at this;cases this
   have h2:Fh y x≠0:=fun h'=>by
    rw[Ek.1 h',Mb]at h;cases h
   omega
  ·intro h
   rcases Y1 x.toList y.toList with h'|h'|h'
   ·rw[toList_inj h',Ek.2 rfl]at h;omega
   ·exact h'
   ·have:=Me.2 h';omega
 trans x y z h1 h2:=Me.2 (Sr _ _ _ (Me.1 h1) (Me.1 h2))
def M5{α:Type}(c d:α→α→Int)(x y:α):Int:=if c x y=0 then d x y else c x y
structure Pre3{α:Type}(c:α→α→Int):Prop where
 self:∀x,c x x=0
 anti:∀x y,c x y<0↔0<c y x
 trans:∀x y z,c x y≤0→c y z≤0→c x z≤0∧(c x z=0→c x y=0∧c y z=0)
theorem Gp.pre{α β:Type}{c:β→β→Int}(h:Gp c)(f:α→β):Pre3 fun x y=>c (f x) (f y) where
 self x:=h.self _
 anti x y:=h.anti _ _
 trans x y z h1 h2:=by
  by_cases e1:c (f x) (f y)=0
  ·rw[(h.zero _ _).1 e1]
   exact⟨h2,fun h3=>⟨h.self _,h3⟩⟩
  ·by_cases e2:c (f y) (f z)=0
   ·rw[←(h.zero _ _).1 e2]
    exact⟨h1,fun h3=>⟨h3,h.self _⟩⟩
   ·have:=h.trans (f x) (f y) (f z) (by omega) (by omega)
    exact⟨by omega,fun h3=>by omega⟩
theorem Pre3.zero_symm{α:Type}{c:α→α→Int}(h:Pre3 c){x y:α}(h0:c x y=0):c y x=0:=by
 have h1:=h.anti x y;have h2:=h.anti y x;omega
theorem Pre3.lex{α:Type}{c d:α→α→Int}(h:Pre3 c)(g:Pre3 d):Pre3 (M5 c d) where
 self x:=by unfold M5;rw[if_pos (h.self x),g.self]
 anti x y:=by
  unfold M5;have h1:=h.anti x y;have h2:=h.anti y x;have h3:=g.anti x y;split<;>split<;>omega
 trans x y z:=by
  unfold M5;intro h1 h2;by_cases e1:c x y=0
  ·rw[if_pos e1]at h1⊢
   by_cases e2:c y z=0
   ·rw[if_pos e2]at h2⊢
    obtain⟨t1,t2⟩:=h.trans x y z (by omega) (by omega);have t3:=h.trans z y x (by have:=h.zero_symm e2;omega) (by have:=h.zero_symm e1;omega);have t4:=h.anti x z;have t5:=h.anti z x;have e3:c x z=0:=by omega
    rw[if_pos e3];exact g.trans x y z h1 h2
   ·rw[if_neg e2]at h2⊢
    obtain⟨t1,t2⟩:=h.trans x y z (by omega) (by omega);have e3:c x z≠0:=fun e=>e2 (t2 e).2;rw[if_neg e3];exact⟨t1,fun e=>absurd e e3⟩
  ·rw[if_neg e1]at h1⊢
   have h2':c y z≤0:=by split at h2<;>omega
   obtain⟨t1,t2⟩:=h.trans x y z (by omega) h2';have e3:c x z≠0:=fun e=>e1 (t2 e).1;rw[if_neg e3];exact⟨t1,fun e=>absurd e e3⟩
theorem Pre3.ord{α:Type}{c:α→α→Int}(h:Pre3 c)(h0:∀x y,c x y=0→x=y):Gp c where
 zero x y:=⟨h0 x y,fun e=>by rw[e];exact h.self y⟩
 anti:=h.anti
 trans x y z h1 h2:=by
  obtain⟨t1,t2⟩:=h.trans x y z (by omega) (by omega);have:c x z≠0:=fun e=>by have:=(t2 e).1;omega
  omega
theorem Sz{α:Type}{c:α→α→Int}(h:Gp c):Gp (D4 c):=by
 have e:∀(x y:α) (l k:List α),D4 c (x::l) (y::k)=if c x y=0 then D4 c l k else c x y:=fun _ _ _ _=>rfl
 have hz:∀l k:List α,D4 c l k=0↔l=k:=by
  intro l
  induction l with
  |nil=>intro k;cases k<;>simp[D4]
  |cons x l ih=>
   intro k;cases k with
   |nil=>simp[D4]
   |cons y k=>
    rw[e];by_cases h0:c x y=0
    ·rw[if_pos h0,ih,(h.zero x y).1 h0];simp
    ·rw[if_neg h0]
     exact⟨fun h'=>absurd h' h0,fun h'=>absurd ((h.zero x y).2 (List.cons.inj h').1) h0⟩
 have ha:∀l k:List α,D4 c l k<0↔0<D4 c k l:=by
  intro l
  induction l with
  |nil=>intro k;cases k<;>simp[D4]
  |cons x l ih=>
   intro k;cases k with
   |nil=>simp[D4]
   |cons y k=>
    rw[e,e];have h1:=h.anti x y;have h2:=h.anti y x;have h3:=ih k;split<;>split<;>omega
 refine⟨hz,ha,?_⟩;intro l
 induction l with
 |nil=>
  intro k m h1 h2;cases k with
  |nil=>simp[D4]at h1
  |cons y k=>
   cases m with
   |nil=>simp[D4]at h2
   |cons z m=>simp[D4]
 |cons x l ih=>
  intro k m h1 h2;cases k with
  |nil=>simp[D4]at h1
  |cons y k=>
   cases m with
   |nil=>simp[D4]at h2
   |cons z m=>
    rw[e]at*;by_cases e1:c x y=0
    ·rw[if_pos e1]at h1
     rw[(h.zero x y).1 e1];by_cases e2:c y z=0
     ·rw[if_pos e2]at h2⊢
      exact ih k m h1 h2
     ·rw[if_neg e2]at h2⊢
      exact h2
    ·rw[if_neg e1]at h1
     by_cases e2:c y z=0
     ·rw[←(h.zero y z).1 e2,if_neg e1]
      exact h1
     ·rw[if_neg e2]at h2
      have:=h.trans x y z h1 h2;rw[if_neg (by omega)];exact this
theorem orI2(a b:Int):orI [a,b]=if a=0 then b else a:=by
 simp only[orI];split
 ·split
  ·rename_i h;exact h.symm
  ·rfl
 ·rfl
def cmpN(x y:Cn):Int:=if x.b=y.b then 0 else if x.b=true then-1 else 1
theorem Air:Pre3 cmpN:=by
 refine⟨fun x=>by simp[cmpN],fun x y=>?_,fun x y z=>?_⟩
 ·unfold cmpN;cases x.b<;>cases y.b<;>simp
 ·unfold cmpN;cases x.b<;>cases y.b<;>cases z.b<;>simp
theorem Qf{x y:Cn}:cmpN x y=0↔x.b=y.b:=by
 unfold cmpN;cases x.b<;>cases y.b<;>simp
theorem Amw(x y:Cn):Hw x y=M5 cmpN (M5 (fun x y:Cn=>Hr x.n y.n) fun x y:Cn=>Fh x.s y.s) x y:=by
 unfold Hw M5;rw[orI2];by_cases hb:x.b=y.b
 ·rw[if_pos hb,if_pos (Qf.2 hb)]
 ·rw[if_neg hb,if_neg (fun h=>hb (Qf.1 h))]
  unfold cmpN;rw[if_neg hb]
theorem Gu{α:Type}{c d:α→α→Int}{x y:α}(h:M5 c d x y=0):c x y=0∧d x y=0:=by
 unfold M5 at h;split at h
 ·rename_i h0;exact⟨h0,h⟩
 ·rename_i h0;exact absurd h h0
theorem Y7:Gp Hw:=by
 have p:=Air.lex ((Jo.pre Cn.n).lex (Hj.pre Cn.s));rw[show Hw=_ from funext fun x=>funext fun y=>Amw x y];refine p.ord fun x y h=>?_;obtain⟨h1,h⟩:=Gu h;obtain⟨h2,h3⟩:=Gu h;cases x;cases y
 have e1:=Qf.1 h1;have e2:=(Jo.zero _ _).1 h2;have e3:=(Hj.zero _ _).1 h3;simp only at e1 e2 e3;rw[e1,e2,e3]
theorem Amy(x y:Fa):Ai x y=M5 (fun x y:Fa=>Fh x.at' y.at') (M5 (fun x y:Fa=>Fh x.by' y.by') (M5 (fun x y:Fa=>Fh x.pr y.pr) fun x y:Fa=>D4 Hw x.ar y.ar)) x y:=by
 unfold Ai M5;simp only[orI];split
 ·split
  ·split
   ·split
    ·rename_i h;exact h.symm
    ·rfl
   ·rfl
  ·rfl
 ·rfl
theorem Ah:Gp Ai:=by
 have p:=(Hj.pre Fa.at').lex ((Hj.pre Fa.by').lex ((Hj.pre Fa.pr).lex ((Sz Y7).pre Fa.ar)));rw[show Ai=_ from funext fun x=>funext fun y=>Amy x y];refine p.ord fun x y h=>?_;obtain⟨h1,h⟩:=Gu h;obtain⟨h2,h⟩:=Gu h;obtain⟨h3,h4⟩:=Gu h;cases x;cases y
 have e1:=(Hj.zero _ _).1 h1;have e2:=(Hj.zero _ _).1 h2;have e3:=(Hj.zero _ _).1 h3;have e4:=((Sz Y7).zero _ _).1 h4;simp only at e1 e2 e3 e4;rw[e1,e2,e3,e4]
instance decFa:DecidableEq Fa:=fun x y=>decidable_of_iff (Ai x y=0) (Ah.zero x y)
def Et:List Fa→List Fa→Int:=D4 Ai
theorem Dm:Gp Et:=Sz Ah
def Tm.val(t:Tm):Cn:=⟨t.b,t.n,t.s⟩
structure Bi where
 v:ByteArray
 c:Cn
deriving DecidableEq
def Bi.cs(x:Bi):List AV:=[str x.v,boo x.c.b,int x.c.n,str x.c.s]
@[go_sem] theorem Bi.len(x:Bi):x.cs.length=4:=rfl
@[go_sem] theorem Bi.one(x:Bi):x.cs.all AV.one=true:=rfl
@[go_sem] theorem Bi.take(x:Bi):x.cs.take 4=x.cs:=rfl
@[go_sem] theorem Bi.at0(x:Bi):x.cs.getD 0 (.v undef)=str x.v:=rfl
def biC(l:List Bi):List (List AV):=l.map Bi.cs
@[go_sem] theorem N7(l:List Bi):(biC l).length=l.length:=by simp[biC]
theorem Rw{l:List Bi}{i:Nat}(h:i<l.length):(biC l).getD i []=l[i].cs:=by simp[biC,List.getD_eq_getElem?_getD,h]
def Ex:List Bi→ByteArray→Option Cn
 | [],_=>none
 |x::l,v=>if x.v=v then some x.c else Ex l v
def C6(t:Tm)(env:List Bi):Option Cn:=if t= .zero then none else if t.v=emp then some t.val else Ex env t.v
def Bd(t:Tm)(c:Cn)(env:List Bi):Option (List Bi):=
 match C6 t env with
 |some x=>if x=c then some env else none
 |none=>if t.v=emp then none else some (env++[⟨t.v,c⟩])
def nmC(s:ByteArray):Cn:=⟨false,0,s⟩
def Fy:List (Tm×Cn)→List Bi→Option (List Bi)
 | [],e=>some e
 |p::l,e=>(Bd p.1 p.2 e).bind (Fy l)
def orT(a b:Tm):Tm:=if a= .zero then b else a
def fits(l:Li)(f:Fa):Bool:=decide (l.nm=f.pr)&&decide (l.ar.length=f.ar.length)&&(decide (l.by'≠.zero)||decide (f.by'=f.at'))
def eqs(ho:Tm)(l:Li)(f:Fa):List (Tm×Cn):=(orT l.at' ho,nmC f.at')::((if l.by'= .zero then[]else[(l.by',nmC f.by')])++l.ar.zip f.ar)
def Be(ho:Tm)(l:Li)(f:Fa)(env:List Bi):Option (List Bi):=if fits l f=true then Fy (eqs ho l f) env else none
def Ext(ρ:ByteArray→Cn)(env:List Bi):Prop:=∀v c,Ex env v=some c→ρ v=c
def Sat(ρ:ByteArray→Cn)(p:Tm×Cn):Prop:=p.1≠.zero∧if p.1.v=emp then p.1.val=p.2 else ρ p.1.v=p.2
def Se(ρ:ByteArray→Cn)(l:List (Tm×Cn)):Prop:=∀p∈l,Sat ρ p
theorem Lp(v:ByteArray)(y:Bi):∀env:List Bi,Ex (env++[y]) v=match Ex env v with
  |some c=>some c
  |none=>if y.v=v then some y.c else none
 | []=>rfl
 |x::l=>by
  rw[List.cons_append];unfold Ex;split
  ·rfl
  ·exact Lp v y l
theorem Tg(env:List Bi):∃ρ,Ext ρ env:=⟨fun v=>(Ex env v).getD ⟨false,0,emp⟩,fun v c h=>by simp[h]⟩
theorem Pb{e:List Bi}{v:ByteArray}{c:Cn}:Ex e v=some c↔∀ρ,Ext ρ e→ρ v=c:=by
 constructor
 ·exact fun h ρ hρ=>hρ v c h
 ·intro h
  cases h':Ex e v with
  |some d=>
   obtain⟨ρ,hρ⟩:=Tg e;rw[←h ρ hρ,hρ v d h']
  |none=>
   have h1:=h (fun w=>(Ex e w).getD ⟨!c.b,0,emp⟩) fun w d hd=>by simp[hd]
   rw[h']at h1;have h2:=congrArg Cn.b h1;simp at h2
def Eqv(e e':List Bi):Prop:=∀v,Ex e v=Ex e' v
theorem Ajo{e e':List Bi}(h:∀ρ,Ext ρ e↔Ext ρ e'):Eqv e e':=fun v=>by
 cases h1:Ex e v with
 |some c=>exact(Pb.2 fun ρ hρ=>Pb.1 h1 ρ ((h ρ).2 hρ)).symm
 |none=>
  cases h2:Ex e' v with
  |none=>rfl
  |some c=>
   have:=Pb.2 fun ρ hρ=>Pb.1 h2 ρ ((h ρ).1 hρ);rw[h1]at this;exact this
theorem Eqv.ext{e e':List Bi}(h:Eqv e e')(ρ:ByteArray→Cn):Ext ρ e↔Ext ρ e':=by
 unfold Ext;constructor<;>intro h' v c hv
 ·exact h' v c (by rw[h v];exact hv)
 ·exact h' v c (by rw[←h v];exact hv)
theorem Abm{t:Tm}{c:Cn}{env e:List Bi}(h:Bd t c env=some e)(ρ:ByteArray→Cn):Ext ρ e↔Ext ρ env∧Sat ρ (t,c):=by
 unfold Bd at h;cases hv:C6 t env with
 |some x=>
  rw[hv]at h;simp only at h;split at h
  ·rename_i hx
   subst hx;injection h with h;subst h;unfold C6 at hv;split at hv
   ·cases hv
   ·rename_i h0
    refine⟨fun hρ=>⟨hρ,h0,?_⟩,fun h=>h.1⟩;split at hv
    ·rename_i h1
     injection hv with hv;rw[if_pos h1];exact hv
    ·rename_i h1
     rw[if_neg h1];exact hρ _ _ hv
  ·cases h
 |none=>
  rw[hv]at h;simp only at h;split at h
  ·cases h
  ·rename_i h1
   injection h with h;subst h;have h0:t≠.zero:=fun e=>h1 (by rw[e];rfl);unfold C6 at hv;rw[if_neg h0,if_neg h1]at hv;have hS:Sat ρ (t,c)↔ρ t.v=c:=by
    unfold Sat;simp only;rw[if_neg h1];exact⟨fun h=>h.2,fun h=>⟨h0,h⟩⟩
   rw[hS];constructor
   ·intro hρ
    refine⟨fun v d hd=>hρ v d (by rw[Lp,hd]),hρ _ _ ?_⟩;rw[Lp,hv];simp
   ·rintro⟨hρ,hc⟩ v d hd
    rw[Lp]at hd;cases hl:Ex env v with
    |some x=>
     rw[hl]at hd;exact hρ v d (by rw[hl];exact hd)
    |none=>
     rw[hl]at hd;simp only at hd;split at hd
     ·rename_i e
      injection hd with hd;rw[←e,←hd];exact hc
     ·cases hd
theorem Al8{t:Tm}{c:Cn}{env:List Bi}(h:Bd t c env=none){ρ:ByteArray→Cn}(hρ:Ext ρ env):¬Sat ρ (t,c):=by
 rintro⟨h0,h1⟩;simp only at h0 h1;unfold Bd C6 at h;rw[if_neg h0]at h;split at h1
 ·rename_i he
  rw[if_pos he]at h;simp only at h;rw[if_pos h1]at h;cases h
 ·rename_i he
  rw[if_neg he]at h;cases hl:Ex env t.v with
  |some x=>
   rw[hl]at h;simp only at h;rw[if_pos ((hρ _ _ hl).symm.trans h1)]at h;cases h
  |none=>
   rw[hl]at h;simp only at h;rw[if_neg he]at h;cases h
theorem Aic{l:List (Tm×Cn)}:∀{env e:List Bi},Fy l env=some e→∀ρ,Ext ρ e↔Ext ρ env∧Se ρ l:=by
 induction l with
 |nil=>
  intro env e h ρ;injection h with h;subst h;exact⟨fun h=>⟨h,fun p hp=>by cases hp⟩,fun h=>h.1⟩
 |cons p l ih=>
  intro env e h ρ;obtain⟨m,h1,h2⟩:=Option.bind_eq_some_iff.1 h;rw[ih h2 ρ,Abm h1 ρ];unfold Se;simp only[List.mem_cons,forall_eq_or_imp];exact⟨fun h=>⟨h.1.1,h.1.2,h.2⟩,fun h=>⟨⟨h.1,h.2.1⟩,h.2.2⟩⟩
theorem Aib{l:List (Tm×Cn)}:∀{env:List Bi},Fy l env=none→∀{ρ},Ext ρ env→¬Se ρ l:=by
 induction l with
 |nil=>intro env h;cases h
 |cons p l ih=>
  intro env h ρ hρ hs;have hp:=hs p (List.mem_cons_self ..);have hl:Se ρ l:=fun q hq=>hs q (List.mem_cons_of_mem _ hq);unfold Fy at h;cases h1:Bd p.1 p.2 env with
  |none=>exact Al8 h1 hρ hp
  |some m=>
   rw[h1]at h;exact ih h ((Abm h1 ρ).2 ⟨hρ,hp⟩) hl
theorem Jy{ho:Tm}{l:Li}{f:Fa}{env e:List Bi}(h:Be ho l f env=some e):fits l f=true∧∀ρ,Ext ρ e↔Ext ρ env∧Se ρ (eqs ho l f):=by
 unfold Be at h;split at h
 ·rename_i hf
  exact⟨hf,Aic h⟩
 ·cases h
theorem O9{ho:Tm}{l:Li}{f:Fa}{env:List Bi}(h:Be ho l f env=none):fits l f=true→∀{ρ},Ext ρ env→¬Se ρ (eqs ho l f):=by
 intro hf;unfold Be at h;rw[if_pos hf]at h;exact Aib h
theorem Ao9{ho:Tm}{l:Li}{f:Fa}{env env':List Bi}(he:Eqv env env'):match Be ho l f env,Be ho l f env' with
  |some e,some e'=>Eqv e e'
  |none,none=>True
  |_,_=>False:=by
 cases h1:Be ho l f env with
 |some e=>
  obtain⟨hf,h⟩:=Jy h1;cases h2:Be ho l f env' with
  |some e'=>
   exact Ajo fun ρ=>by rw[h ρ,(Jy h2).2 ρ,he.ext ρ]
  |none=>
   obtain⟨ρ,hρ⟩:=Tg e;obtain⟨k1,k2⟩:=(h ρ).1 hρ;exact O9 h2 hf ((he.ext ρ).1 k1) k2
 |none=>
  cases h2:Be ho l f env' with
  |none=>trivial
  |some e'=>
   obtain⟨hf,h⟩:=Jy h2;obtain⟨ρ,hρ⟩:=Tg e';obtain⟨k1,k2⟩:=(h ρ).1 hρ;exact O9 h1 hf ((he.ext ρ).2 k1) k2
theorem Ako{ho:Tm}{a b:Li}{x y:Fa}{env:List Bi}:match(Be ho a x env).bind (Be ho b y),(Be ho b y env).bind (Be ho a x)with
  |some e,some e'=>Eqv e e'
  |none,none=>True
  |_,_=>False:=by
 have key:∀{a b:Li} {x y:Fa} {e:List Bi},(Be ho a x env).bind (Be ho b y)=some e→fits a x=true∧fits b y=true∧∀ρ,Ext ρ e↔Ext ρ env∧Se ρ (eqs ho a x)∧Se ρ (eqs ho b y):=by
  intro a b x y e h;obtain⟨m,h1,h2⟩:=Option.bind_eq_some_iff.1 h;obtain⟨f1,g1⟩:=Jy h1;obtain⟨f2,g2⟩:=Jy h2;exact⟨f1,f2,fun ρ=>by rw[g2 ρ,g1 ρ,and_assoc]⟩
 have key2:∀{a b:Li} {x y:Fa},(Be ho a x env).bind (Be ho b y)=none→fits a x=true→fits b y=true→∀{ρ},Ext ρ env→Se ρ (eqs ho a x)→¬Se ρ (eqs ho b y):=by
  intro a b x y h f1 f2 ρ hρ s1;cases h1:Be ho a x env with
  |none=>exact absurd s1 (O9 h1 f1 hρ)
  |some m=>
   rw[h1]at h;exact O9 h f2 (((Jy h1).2 ρ).2 ⟨hρ,s1⟩)
 cases h1:(Be ho a x env).bind (Be ho b y)with
 |some e=>
  obtain⟨f1,f2,h⟩:=key h1;cases h2:(Be ho b y env).bind (Be ho a x)with
  |some e'=>
   exact Ajo fun ρ=>by rw[h ρ,(key h2).2.2 ρ,and_comm (a:=Se ρ (eqs ho a x))]
  |none=>
   obtain⟨ρ,hρ⟩:=Tg e;obtain⟨k1,k2,k3⟩:=(h ρ).1 hρ;exact key2 h2 f2 f1 k1 k3 k2
 |none=>
  cases h2:(Be ho b y env).bind (Be ho a x)with
  |none=>trivial
  |some e'=>
   obtain⟨f1,f2,h⟩:=key h2;obtain⟨ρ,hρ⟩:=Tg e';obtain⟨k1,k2,k3⟩:=(h ρ).1 hρ;exact key2 h1 f2 f1 k1 k3 k2
def Ce(ho:Tm)(bo:List Li)(cand:Nat→List Fa):List Nat→List Bi→List Fa→List (List Fa)
 | [],_,got=>[got]
 |k::o,env,got=>(cand k).flatMap fun x=>match Be ho (bo.getD k .zero) x env with
  |some e=>Ce ho bo cand o e (got.set k x)
  |none=>[]
section
variable{ho:Tm}{bo:List Li}{cand:Nat→List Fa}
theorem Zu:∀(o:List Nat) {e e':List Bi} (got:List Fa),Eqv e e'→Ce ho bo cand o e got=Ce ho bo cand o e' got
 | [],e,e',got,h=>rfl
 |k::o,e,e',got,h=>by
  unfold Ce
  congr 1
  funext x;have:=Ao9 (ho:=ho) (l:=bo.getD k .zero) (f:=x) h;split at this
  ·rename_i h1 h2
   rw[h1,h2];exact Zu o _ this
  ·rename_i h1 h2
   rw[h1,h2]
  ·exact this.elim
theorem Km{α β:Type}{f g:α→List β}(l:List α)(h:∀x,(f x).Perm (g x)):(l.flatMap f).Perm (l.flatMap g):=by
 induction l with
 |nil=>exact .refl _
 |cons x l ih=>simp only[List.flatMap_cons];exact(h x).append ih
theorem Z2{α β:Type}(f g:α→List β)(l:List α):(l.flatMap fun x=>f x++g x).Perm (l.flatMap f++l.flatMap g):=by
 induction l with
 |nil=>exact .refl _
 |cons x l ih=>
  simp only[List.flatMap_cons];refine((List.Perm.refl (f x++g x)).append ih).trans ?_;rw[List.append_assoc,List.append_assoc];refine(List.Perm.refl (f x)).append ?_;rw[←List.append_assoc,←List.append_assoc];exact List.perm_append_comm.append (.refl _)
theorem Xf{α β γ:Type}(f:α→β→List γ)(l:List α)(m:List β):(l.flatMap fun x=>m.flatMap fun y=>f x y).Perm (m.flatMap fun y=>l.flatMap fun x=>f x y):=by
 induction l with
 |nil=>simp
 |cons x l ih=>
  simp only[List.flatMap_cons];exact((List.Perm.refl _).append ih).trans (Z2 (f x) (fun y=>l.flatMap fun x=>f x y) m).symm
theorem Zw{i j:Nat}{o:List Nat}{env:List Bi}{got:List Fa}:Ce ho bo cand (i::j::o) env got=(cand i).flatMap fun x=>(cand j).flatMap fun y=>match(Be ho (bo.getD i .zero) x env).bind (Be ho (bo.getD j .zero) y)with
  |some e=>Ce ho bo cand o e ((got.set i x).set j y)
  |none=>[]:=by
 rw[Ce]
 congr 1
 funext x;cases Be ho (bo.getD i .zero) x env with
 |none=>simp
 |some e=>rfl
theorem Vh{o o':List Nat}(h:o.Perm o')(hn:o.Nodup):∀(env:List Bi) (got:List Fa),(Ce ho bo cand o env got).Perm (Ce ho bo cand o' env got):=by
 induction h with
 |nil=>exact fun _ _=>.refl _
 |cons k h ih=>
  intro env got;rw[Ce,Ce];refine Km _ fun x=>?_;cases Be ho (bo.getD k .zero) x env with
  |none=>exact .refl _
  |some e=>exact ih (List.nodup_cons.1 hn).2 e _
 |swap i j o=>
  intro env got;have hij:j≠i:=fun e=>by subst e;simp at hn
  rw[Zw,Zw];refine(Xf _ _ _).trans (Km _ fun x=>Km _ fun y=>?_);have:=Ako (ho:=ho) (a:=bo.getD j .zero) (b:=bo.getD i .zero) (x:=y) (y:=x) (env:=env);split at this
  ·rename_i h1 h2
   rw[h1,h2];simp only;rw[Zu o _ this,List.set_comm _ _ hij]
  ·rename_i h1 h2
   rw[h1,h2]
  ·exact this.elim
 |trans h1 h2 ih1 ih2=>exact fun env got=>(ih1 hn env got).trans (ih2 (h1.nodup_iff.1 hn) env got)
end
def Cn.zero:Cn:=⟨false,0,emp⟩
def Pq(o:Option Cn):AV:=.tup [.agg (o.getD .zero).cs,boo o.isSome]
def I1(o:Option (List Bi)):AV:=.tup [.sl 4 (biC (o.getD [])),boo o.isSome]
@[go_sem] theorem Tm.val1(t:Tm):(t.cs.drop 1).take 3=t.val.cs:=rfl
@[go_sem] theorem Tm.len1(t:Tm):(t.cs.drop 1).length=3:=rfl
@[go_sem] theorem Bi.val1(x:Bi):(x.cs.drop 1).take 3=x.c.cs:=rfl
@[go_sem] theorem Bi.len1(x:Bi):(x.cs.drop 1).length=3:=rfl
@[go_sem] theorem Tm.app(a b:Tm):a.cs++b.cs.drop 4=a.cs:=rfl
@[go_sem] theorem Cn.app(a b:Cn):a.cs++b.cs.drop 3=a.cs:=rfl
@[go_sem] theorem Fa.app(a b:Fa):a.cs++b.cs.drop 4=a.cs:=rfl
section
variable{K:AV→Prop}{σ:St}
theorem Abi{t:Tm}(h:K (boo (decide (t= .zero)))):Rp Tryz.prog false 88 (.agg t.cs) (.agg Tm.zero.cs) K:=by
 refine Wt (ls:=[.s,.b,.i .i64,.s]) (vs:=[.string t.v,.bool t.b,.int .i64 t.n,.string t.s]) (ws:=[.string emp,.bool false,.int .i64 0,.string emp]) (by kernel_rfl) (by kernel_rfl) (by kernel_rfl) rfl rfl rfl rfl (by simp[Fit,Du.ok]) (by simp[Fit,Du.ok]) ?_;rcases t with⟨v,b,n,s⟩;simpa[eqL,Hs,Tm.zero]using h
theorem Ais{a b:Cn}(h:K (boo (decide (a=b)))):Rp Tryz.prog false 86 (.agg a.cs) (.agg b.cs) K:=by
 refine Wt (ls:=[.b,.i .i64,.s]) (vs:=[.bool a.b,.int .i64 a.n,.string a.s]) (ws:=[.bool b.b,.int .i64 b.n,.string b.s]) (by kernel_rfl) (by kernel_rfl) (by kernel_rfl) rfl rfl rfl rfl (by simp[Fit,Du.ok]) (by simp[Fit,Du.ok]) ?_;rcases a with⟨x,n,s⟩;rcases b with⟨y,m,t⟩;cases x<;>cases y<;>simpa[eqL,Hs]using h
theorem Aqe{a b:Cn}(h:K (boo (!decide (a=b)))):Rp Tryz.prog true 86 (.agg a.cs) (.agg b.cs) K:=by
 refine Wt (ls:=[.b,.i .i64,.s]) (vs:=[.bool a.b,.int .i64 a.n,.string a.s]) (ws:=[.bool b.b,.int .i64 b.n,.string b.s]) (by kernel_rfl) (by kernel_rfl) (by kernel_rfl) rfl rfl rfl rfl (by simp[Fit,Du.ok]) (by simp[Fit,Du.ok]) ?_;rcases a with⟨x,n,s⟩;rcases b with⟨y,m,t⟩;cases x<;>cases y<;>simpa[eqL,Hs]using h
theorem D5{P:Program}{Q:AV→St→Prop}{fr:Fr}{t tt u b:Nat}{i:TK}{cs:List AV}(σ':St)(r':AV)(hfr:fr t= .v (.pointer (some ⟨b,0,none⟩)))(hb:σ b=some (.cells cs))(hi:tk P tt=some i)(hag:i.ag=true)(hsz:i.sz=cs.length)
  (hv:Hf σ (.tup [.agg cs,fr u]) σ' r') (hq:Q r' σ'):Dw P Q [.cell t tt,.tmp u] fr σ:=
 ⟨.tup [.agg cs,fr u],by simp[A9,Rh,Sk,Yy,hfr,hi,hag,hb,hsz,oneR],r',σ',hv,hq⟩
theorem Ml(s:ByteArray):AT Tryz.prog 154 [str s] σ fun r σ'=>r= .agg (nmC s).cs∧σ'=σ:=by
 refine AT.ob Tryz.func154 rfl ?_;simp only[go_sem];refine Ctx.nil.alloc fun p σ1 c1=>?_;simp only[go_sem,c1.g0];exact Jn σ (.agg (nmC s).cs) rfl Ab tk86 rfl rfl ((c1.upd 0 rfl).view _) ⟨rfl,rfl⟩
theorem Yn(s:ByteArray):AT Tryz.prog 198 [str s] σ fun r σ'=>r= .agg (nmC s).cs∧σ'=σ:=by
 refine AT.ob Tryz.func198 rfl ?_;simp only[go_sem];refine Ctx.nil.alloc fun p σ1 c1=>?_;simp only[go_sem,c1.g0];exact Jn σ (.agg (nmC s).cs) rfl Ab tk86 rfl rfl ((c1.upd 0 rfl).view _) ⟨rfl,rfl⟩
theorem Pg(t:Tm):AT Tryz.prog 193 [.agg t.cs] σ fun r σ'=>r=boo (decide (t= .zero))∧σ'=σ:=by
 refine AT.ob Tryz.func193 rfl ?_;simp only[go_sem];refine Ctx.nil.alloc fun p σ1 c1=>?_;simp only[go_sem,c1.g0];refine Abi ?_;simp only[go_sem];exact Ad (r:=boo _) rfl _ σ (c1.view _) ⟨rfl,rfl⟩
theorem Ale(a b:Tm):AT Tryz.prog 197 [.agg a.cs,.agg b.cs] σ fun r σ'=>r= .agg (orT a b).cs∧σ'=σ:=by
 refine AT.ob Tryz.func197 rfl ?_;simp only[go_sem];refine Ctx.nil.alloc fun p σ1 c1=>?_;simp only[go_sem];refine c1.alloc fun q σ2 c2=>?_;simp only[go_sem];refine c2.alloc fun r σ3 c3=>?_;simp only[go_sem,c3.g2];refine Abi ?_;simp only[go_sem];refine aIf_by (fun h=>?_) (fun h=>?_)
 ·simp only[go_sem,c3.g2]
  exact Jn σ (.agg (orT a b).cs) rfl Ab tk88 rfl rfl (by unfold orT;rw[if_pos h];exact(c3.upd 0 rfl).view _) ⟨rfl,rfl⟩
 ·simp only[go_sem,c3.g2]
  exact Jn σ (.agg (orT a b).cs) rfl Ab tk88 rfl rfl (by unfold orT;rw[if_neg h];exact(c3.upd 0 rfl).view _) ⟨rfl,rfl⟩
theorem Ap8{t:Tm}{b:Bi}{q:Nat}(hq:σ q=some (.cells t.cs)):AT Tryz.prog 196 [.agg b.cs,ptr q] σ fun r σ'=>r=boo (decide (b.v=t.v))∧σ'=σ:=by
 refine AT.ob Tryz.func196 rfl ?_;simp only[go_sem];refine Ctx.nil.alloc fun p σ1 c1=>?_;simp only[go_sem,c1.g0,c1.sub _ _ hq];exact Ad (r:=boo _) rfl _ σ (c1.view _) ⟨rfl,rfl⟩
theorem Asl{t:Tm}{q:Nat}(env:List Bi)(hl:env.length≤1000000000000)(hq:σ q=some (.cells t.cs)):AT Tryz.prog 195 [.sl 4 (biC env),.v (.func (.func 196) #[] #[.pointer (some ⟨q,0,none⟩)])] σ fun r σ'=>σ'=σ∧((∃i,∃h:i<env.length,r=int i∧Ex env t.v=some env[i].c)∨(r=int (-1)∧Ex env t.v=none)):=by
 refine AT.ob Tryz.func195 rfl ?_;simp only[go_sem,Aa];refine⟨fun m fr σ'=>∃i:Nat,m=env.length-i∧i≤env.length∧σ'=σ∧Ex (env.drop i) t.v=Ex env t.v∧fr 0= .sl 4 (biC env)∧fr 1= .v (.func (.func 196) #[] #[.pointer (some ⟨q,0,none⟩)])∧fr 7=int env.length∧fr 8=int i,⟨_,0,rfl,by omega,rfl,rfl,rfl,rfl,rfl,rfl⟩,?_⟩;rintro m fr σ' ⟨i,rfl,hi,rfl,hI,f0,f1,f7,f8⟩;simp only[go_sem,f7,f8];refine aIf_by (fun hlt=>?_) (fun hlt=>?_)
 ·have hil:i<env.length:=by omega
  rw[List.drop_eq_getElem_cons hil]at hI;have e2:Ex (env[i]::env.drop (i+1)) t.v=if env[i].v=t.v then some env[i].c else Ex (env.drop (i+1)) t.v:=rfl
  rw[e2]at hI;simp only[go_sem,Aa,f0,f1,f8,Rw hil];refine⟨by omega,?_⟩;refine(Ap8 hq).p ?_;simp only[go_sem];refine aIf_by (fun h0=>?_) (fun h0=>?_)
  ·simp only[go_sem,f8]
   rw[if_pos h0]at hI;exact Ae (r:=int i) rfl ⟨rfl,.inl ⟨i,hil,rfl,hI.symm⟩⟩
  ·simp only[go_sem,f0,f1,f7,f8,As i (by omega)]
   rw[if_neg h0]at hI;exact⟨env.length-(i+1),by omega,i+1,rfl,by omega,hI,rfl⟩
 ·simp only[go_sem]
  rw[List.drop_of_length_le (by omega)]at hI;exact Ae (r:=int (-1)) rfl ⟨rfl,.inr ⟨rfl,hI.symm⟩⟩
end
theorem X0{q:Nat}{σ:St}{v:AV}{es:List (List AV)}(h:Rd q σ v es):v.one=true:=by
 rcases h with rfl|h
 ·rfl
 ·exact h.one
def faX(f:Fa)(v:AV):List AV:=[str f.at',str f.by',str f.pr,v]
@[go_sem] theorem Ave(f:Fa)(v:AV):(faX f v).length=4:=rfl
@[go_sem] theorem At4(f:Fa)(v:AV):(faX f v).take 4=faX f v:=rfl
@[go_sem] theorem Azw(f:Fa)(v:AV):(faX f v).getD 0 (.v undef)=str f.at':=rfl
@[go_sem] theorem Azx(f:Fa)(v:AV):(faX f v).getD 1 (.v undef)=str f.by':=rfl
@[go_sem] theorem Azy(f:Fa)(v:AV):(faX f v).getD 2 (.v undef)=str f.pr:=rfl
@[go_sem] theorem Azz(f:Fa)(v:AV):(faX f v).getD 3 (.v undef)=v:=rfl
theorem Ol(f:Fa){v:AV}(h:v.one=true):(faX f v).all AV.one=true:=by unfold faX;simp only[List.all_cons,List.all_nil,h,Bool.and_true];rfl
@[go_sem] theorem Fa.d1(f:Fa):(f.cs.drop 1).getD 0 (.v undef)=str f.by':=rfl
@[go_sem] theorem Fa.d2(f:Fa):(f.cs.drop 2).getD 0 (.v undef)=str f.pr:=rfl
@[go_sem] theorem Fa.d3(f:Fa):(f.cs.drop 3).getD 0 (.v undef)= .sl 3 (cnC f.ar):=rfl
@[go_sem] theorem Cn.d1(c:Cn):(c.cs.drop 1).getD 0 (.v undef)=int c.n:=rfl
@[go_sem] theorem Cn.d2(c:Cn):(c.cs.drop 2).getD 0 (.v undef)=str c.s:=rfl
def faC(l:List Fa):List (List AV):=l.map Fa.cs
@[go_sem] theorem Aj(l:List Fa):(faC l).length=l.length:=by simp[faC]
theorem Aq{l:List Fa}{i:Nat}(h:i<l.length):(faC l).getD i []=l[i].cs:=by simp[faC,List.getD_eq_getElem?_getD,h]
def boC(l:List (List Fa)):List (List AV):=l.map fun b=>[.sl 4 (faC b)]
@[go_sem] theorem Gc(l:List (List Fa)):(boC l).length=l.length:=by simp[boC]
theorem Db{l:List (List Fa)}{i:Nat}(h:i<l.length):(boC l).getD i []=[.sl 4 (faC l[i])]:=by simp[boC,List.getD_eq_getElem?_getD,h]
def FX(σ:St)(f:Fa)(e:List AV):Prop:=∃v,e=faX f v∧Rd 3 σ v (cnC f.ar)
def BX(σ:St)(b:List Fa)(lv:AV):Prop:=∃es,Rd 4 σ lv es∧es.length=b.length∧∀i (h:i<b.length),FX σ b[i] (es.getD i [])
theorem FX.cs{σ:St}{f:Fa}:FX σ f f.cs:=⟨_,rfl,.sl⟩
theorem BX.sl{σ:St}{b:List Fa}:BX σ b (.sl 4 (faC b)):=⟨_,.sl,by simp[faC],fun i h=>by rw[Aq h];exact .cs⟩
def Fa.Sm(f:Fa):Prop:=f.ar.length≤1000000000000
section
variable{σ:St}
theorem L3(x y:ByteArray):AT Tryz.prog 118 [str x,str y] σ fun r σ'=>r=int (Fh x y)∧σ'=σ:=by
 refine AT.ob Tryz.func118 rfl ?_;simp only[go_sem];refine aIf_bool (fun h1=>?_) (fun h1=>?_)
 ·simp only[go_sem]
  exact Ae (r:=int (-1)) rfl ⟨by unfold Fh;rw[if_pos h1],rfl⟩
 ·by_cases h2:x=y
  ·have e:(Op.bytesLess x.toList y.toList||decide (x=y))=true:=by rw[decide_eq_true h2];simp
   simp only[go_sem,e,Bool.not_true];exact Ae (r:=int 0) rfl ⟨by unfold Fh;rw[if_neg (by rw[h1];decide),if_pos h2],rfl⟩
  ·have e:(Op.bytesLess x.toList y.toList||decide (x=y))=false:=by rw[decide_eq_false h2,h1];rfl
   simp only[go_sem,e,Bool.not_false];exact Ae (r:=int 1) rfl ⟨by unfold Fh;rw[if_neg (by rw[h1];decide),if_neg h2],rfl⟩
theorem Aln(x y:Cn):AT Tryz.prog 119 [.agg x.cs,.agg y.cs] σ fun r σ'=>r=int (Hw x y)∧σ'=σ:=by
 refine AT.ob Tryz.func119 rfl ?_;simp only[go_sem];refine Ctx.nil.alloc fun p σ1 c1=>?_;simp only[go_sem];refine c1.alloc fun q σ2 c2=>?_;have e:Hw x y=if x.b=y.b then orI [Hr x.n y.n,Fh x.s y.s]else if x.b=true then-1 else 1:=rfl
 cases hx:x.b with
 |true=>
  cases hy:y.b with
  |false=>
   simp only[go_sem,c2.g1,hx,hy];exact Ad (r:=int (-1)) rfl _ σ (c2.view _) ⟨by rw[e,hx,hy];rfl,rfl⟩
  |true=>
   rw[hx,hy,if_pos rfl]at e;simp only[go_sem,c2.g1,hx,hy];refine aIf_by (fun h1=>?_) (fun h1=>?_)
   ·simp only[go_sem]
    exact Ad (r:=int (-1)) rfl _ σ (c2.view _) ⟨by rw[e];unfold Hr;rw[if_pos h1];rfl,rfl⟩
   ·simp only[go_sem,c2.g1]
    refine aIf_by (fun h2=>?_) (fun h2=>?_)
    ·simp only[go_sem]
     exact Ad (r:=int 1) rfl _ σ (c2.view _) ⟨by rw[e];unfold Hr;rw[if_neg h1,if_neg (by omega)];rfl,rfl⟩
    ·simp only[go_sem,c2.g1]
     refine(L3 x.s y.s).p ?_;simp only[go_sem];exact Ad (r:=int _) rfl _ σ (c2.view _) ⟨by rw[e,orI2,(Jo.zero _ _).2 (show x.n=y.n by omega),if_pos rfl],rfl⟩
 |false=>
  cases hy:y.b with
  |true=>
   simp only[go_sem,c2.g1,hx,hy];exact Ad (r:=int 1) rfl _ σ (c2.view _) ⟨by rw[e,hx,hy];rfl,rfl⟩
  |false=>
   rw[hx,hy,if_pos rfl]at e;simp only[go_sem,c2.g1,hx,hy];refine aIf_by (fun h1=>?_) (fun h1=>?_)
   ·simp only[go_sem]
    exact Ad (r:=int (-1)) rfl _ σ (c2.view _) ⟨by rw[e];unfold Hr;rw[if_pos h1];rfl,rfl⟩
   ·simp only[go_sem,c2.g1]
    refine aIf_by (fun h2=>?_) (fun h2=>?_)
    ·simp only[go_sem]
     exact Ad (r:=int 1) rfl _ σ (c2.view _) ⟨by rw[e];unfold Hr;rw[if_neg h1,if_neg (by omega)];rfl,rfl⟩
    ·simp only[go_sem,c2.g1]
     refine(L3 x.s y.s).p ?_;simp only[go_sem];exact Ad (r:=int _) rfl _ σ (c2.view _) ⟨by rw[e,orI2,(Jo.zero _ _).2 (show x.n=y.n by omega),if_pos rfl],rfl⟩
theorem Md{α:Type}{c:α→α→Int}{l k:List α}{i:Nat}(h1:i<l.length)(h2:i<k.length):D4 c (l.drop i) (k.drop i)=if c l[i] k[i]=0 then D4 c (l.drop (i+1)) (k.drop (i+1))else c l[i] k[i]:=by
 rw[List.drop_eq_getElem_cons h1,List.drop_eq_getElem_cons h2];rfl
theorem Lc{α:Type}{c:α→α→Int}{l k:List α}{i:Nat}(h1:i≤l.length)(h2:i≤k.length)(h:¬(i<l.length∧i<k.length)):D4 c (l.drop i) (k.drop i)=if l.length<k.length then-1 else if k.length<l.length then 1 else 0:=by
 by_cases h3:i<l.length
 ·have h4:k.drop i=[]:=List.drop_of_length_le (by omega)
  rw[h4,List.drop_eq_getElem_cons h3,if_neg (by omega),if_pos (by omega)];rfl
 ·have h4:l.drop i=[]:=List.drop_of_length_le (by omega)
  rw[h4];by_cases h5:i<k.length
  ·rw[List.drop_eq_getElem_cons h5,if_pos (by omega)];rfl
  ·rw[List.drop_of_length_le (by omega),if_neg (by omega),if_neg (by omega)];rfl
theorem Fg{x y:Fa}{e1 e2:List AV}(hx:FX σ x e1)(hy:FX σ y e2)(sx:x.Sm)(sy:y.Sm):AT Tryz.prog 62 [.agg e1,.agg e2] σ fun r σ'=>r=int (Ai x y)∧σ'=σ:=by
 obtain⟨v,rfl,hv⟩:=hx;obtain⟨w,rfl,hw⟩:=hy;unfold Fa.Sm at sx sy;refine AT.ob Tryz.func62 rfl ?_;simp only[go_sem,Ol x (X0 hv),Ol y (X0 hw)];refine Ctx.nil.alloc fun p σ1 c1=>?_;simp only[go_sem,Ol x (X0 hv),Ol y (X0 hw)];refine c1.alloc fun q σ2 c2=>?_;have e:Ai x y=orI [Fh x.at' y.at',Fh x.by' y.by',Fh x.pr y.pr,D4 Hw x.ar y.ar]:=rfl;have hv:=hv.keep c2.sub;have hw:=hw.keep c2.sub;by_cases h1:x.at'=y.at'
 ·simp only[go_sem,c2.g1,h1]
  by_cases h2:x.by'=y.by'
  ·simp only[go_sem,c2.g1,h2]
   by_cases h3:x.pr=y.pr
   ·have e:Ai x y=D4 Hw x.ar y.ar:=by
     rw[e,h1,h2,h3];simp only[orI,Ek.2 rfl,if_true];split
     ·rename_i h;exact h.symm
     ·rfl
    simp only[go_sem,Aa,c2.g1,h3];refine⟨fun m fr σ'=>∃i:Nat,m=x.ar.length-i∧i≤x.ar.length∧i≤y.ar.length∧σ'=σ2∧D4 Hw (x.ar.drop i) (y.ar.drop i)=D4 Hw x.ar y.ar∧fr 2=ptr p∧fr 3=ptr q∧fr 5=int i,⟨_,0,rfl,by omega,by omega,rfl,rfl,rfl,rfl,rfl⟩,?_⟩;rintro m fr σ3 ⟨i,rfl,hi1,hi2,rfl,hI,f2,f3,f5⟩;by_cases g:i<x.ar.length∧i<y.ar.length
    ·obtain⟨g1,g2⟩:=g
     rw[Md g1 g2]at hI;have d1:=decide_eq_true (show(i:Int)<x.ar.length by omega);have d2:=decide_eq_true (show(i:Int)<y.ar.length by omega);simp only[go_sem,Aa,f2,f3,f5,c2.g1,hv.len,hw.len,d1,d2];refine Af [.rd 0 false,.rd 1 true,.rd 2 false,.rd 3 false,.rd 4 true,.rd 5 false,.rd 6 true,.rd 7 false,.rd 8 false,.rd 9 true,.ef 10 [],.rd 11 false] ?_;simp only[go_sem,Aa,f2,f3,f5,c2.g1];refine hv.elem (by omega) (by rw[Hy];omega) fun a ha=>?_;simp only[go_sem,Aa];refine ha.load (by decide) (by rw[Int.toNat_natCast,Gd g1];exact Nat.le_refl 3) ?_;simp only[go_sem,Aa,f2,f3,f5,c2.g1,Gd g1];refine hw.elem (by omega) (by rw[Hy];omega) fun b hb=>?_;simp only[go_sem,Aa];refine hb.load (by decide) (by rw[Int.toNat_natCast,Gd g2];exact Nat.le_refl 3) ?_;simp only[go_sem,Aa,f2,f3,f5,c2.g1,Gd g2];refine(Aln x.ar[i] y.ar[i]).p ?_;simp only[go_sem,Aa];refine aIf_by (fun h0=>?_) (fun h0=>?_)
     ·rw[if_pos h0]at hI
      simp only[go_sem,Aa,f2,f3,f5,As i (by omega)];refine⟨x.ar.length-(i+1),by omega,i+1,?_⟩
      (and_intros<;>first|assumption|rfl|omega)
     ·rw[if_neg h0]at hI
      simp only[go_sem,Aa];exact Ad (r:=int _) rfl _ σ (c2.view _) ⟨by rw[e,←hI],rfl⟩
    ·have fin:Ai x y=if x.ar.length<y.ar.length then-1 else if y.ar.length<x.ar.length then 1 else 0:=by rw[e,←hI,Lc hi1 hi2 g]
     by_cases g1:i<x.ar.length
     ·have d1:=decide_eq_true (show(i:Int)<x.ar.length by omega)
      have d2:=decide_eq_false (show¬(i:Int)<y.ar.length by omega);have d3:=decide_eq_false (show¬(x.ar.length:Int)<y.ar.length by omega);have d4:=decide_eq_true (show(y.ar.length:Int)<x.ar.length by omega);rw[if_neg (by omega),if_pos (by omega)]at fin;simp only[go_sem,Aa,f2,f3,f5,c2.g1,hv.len,hw.len,d1,d2,d3,d4];exact Ad (r:=int 1) rfl _ σ (c2.view _) ⟨by rw[fin],rfl⟩
     ·have d1:=decide_eq_false (show¬(i:Int)<x.ar.length by omega)
      simp only[go_sem,Aa,f2,f3,f5,c2.g1,hv.len,hw.len,d1];refine aIf_by (fun h0=>?_) (fun h0=>?_)
      ·rw[if_pos (by omega)]at fin
       simp only[go_sem,Aa];exact Ad (r:=int (-1)) rfl _ σ (c2.view _) ⟨by rw[fin],rfl⟩
      ·rw[if_neg (by omega),if_neg (by omega)]at fin
       have d4:=decide_eq_false (show¬(y.ar.length:Int)<x.ar.length by omega);simp only[go_sem,Aa,f2,f3,c2.g1,hv.len,hw.len,d4];exact Ad (r:=int 0) rfl _ σ (c2.view _) ⟨by rw[fin],rfl⟩
   ·simp only[go_sem,c2.g1,h3]
    refine(L3 x.pr y.pr).p ?_;simp only[go_sem];exact Ad (r:=int _) rfl _ σ (c2.view _) ⟨by rw[e,h1,h2];simp only[orI,Ek.2 rfl,if_true];rw[if_neg (fun h=>h3 (Ek.1 h))],rfl⟩
  ·simp only[go_sem,c2.g1,h2]
   refine(L3 x.by' y.by').p ?_;simp only[go_sem];exact Ad (r:=int _) rfl _ σ (c2.view _) ⟨by rw[e,h1];simp only[orI,Ek.2 rfl,if_true];rw[if_neg (fun h=>h2 (Ek.1 h))],rfl⟩
 ·simp only[go_sem,c2.g1,h1]
  refine(L3 x.at' y.at').p ?_;simp only[go_sem];exact Ad (r:=int _) rfl _ σ (c2.view _) ⟨by rw[e];simp only[orI];rw[if_neg (fun h=>h1 (Ek.1 h))],rfl⟩
end
theorem FX.len{σ:St}{f:Fa}{e:List AV}(h:FX σ f e):e.length=4:=by obtain⟨v,rfl,_⟩:=h;rfl
theorem FX.take{σ:St}{f:Fa}{e:List AV}(h:FX σ f e):e.take 4=e:=List.take_of_length_le (by rw[h.len];omega)
section
variable{σ:St}
theorem Akh{a b:List Fa}{lv lw:AV}(ha:BX σ a lv)(hb:BX σ b lw)(sa:a.length≤1000000000000)(sa':∀x∈a,x.Sm)(sb:b.length≤1000000000000)(sb':∀x∈b,x.Sm):AT Tryz.prog 22 [lv,lw] σ fun r σ'=>r=boo (decide (a=b))∧σ'=σ:=by
 obtain⟨es,h1,h2,h3⟩:=ha;obtain⟨es',k1,k2,k3⟩:=hb;refine AT.ob Tryz.func22 rfl ?_;simp only[go_sem,h1.len,k1.len];by_cases hl:a.length=b.length
 ·have d:=decide_eq_true (show(es.length:Int)=es'.length by omega)
  simp only[go_sem,Aa,d];refine⟨fun m fr σ'=>∃i:Nat,m=a.length-i∧i≤a.length∧σ'=σ∧a.take i=b.take i∧fr 0=lv∧fr 1=lw∧fr 5=int i,⟨_,0,rfl,by omega,rfl,rfl,rfl,rfl,rfl⟩,?_⟩;rintro m fr σ ⟨i,rfl,hi,rfl,hI,f0,f1,f5⟩;simp only[go_sem,f0,f1,f5,h1.len];refine aIf_by (fun hlt=>?_) (fun hlt=>?_)
  ·have hia:i<a.length:=by omega
   have hib:i<b.length:=by omega
   have x1:=h3 i hia;have x2:=k3 i hib;simp only[go_sem,Aa];refine Af [.rd 0 false,.rd 1 false,.rd 2 false,.rd 3 true,.rd 4 false,.rd 5 false,.rd 6 false,.rd 7 true,.ef 8 [],.rd 9 false] ?_;simp only[go_sem,Aa,f0,f1,f5];refine h1.elem (by omega) (by omega) fun p hp=>?_;simp only[go_sem,Aa];refine hp.load (by decide) (by rw[Int.toNat_natCast,x1.len];exact Nat.le_refl 4) ?_;simp only[go_sem,Aa,f0,f1,f5];refine k1.elem (by omega) (by omega) fun p' hp'=>?_;simp only[go_sem,Aa];refine hp'.load (by decide) (by rw[Int.toNat_natCast,x2.len];exact Nat.le_refl 4) ?_;simp only[go_sem,Aa,f0,f1,f5,x1.take,x2.take];refine(Fg x1 x2 (sa' _ (List.getElem_mem hia)) (sb' _ (List.getElem_mem hib))).p ?_;simp only[go_sem,Aa];by_cases h0:Ai a[i] b[i]=0
   ·have e:=(Ah.zero _ _).1 h0
    simp only[go_sem,Aa,h0,f0,f1,f5,As i (by omega)];refine⟨a.length-(i+1),by omega,i+1,?_⟩;have hI':a.take (i+1)=b.take (i+1):=by
     rw[List.take_add_one,List.take_add_one,hI,List.getElem?_eq_getElem hia,List.getElem?_eq_getElem hib,e]
    (and_intros<;>first|assumption|rfl|omega)
   ·have d0:=decide_eq_false h0
    simp only[go_sem,Aa,d0];refine Ae (r:=boo false) rfl ⟨?_,rfl⟩;rw[decide_eq_false fun e=>h0 ((Ah.zero _ _).2 (by simp only[e]))]
  ·simp only[go_sem,Aa]
   rw[List.take_of_length_le (by omega),List.take_of_length_le (by omega)]at hI;exact Ae (r:=boo true) rfl ⟨by rw[decide_eq_true hI],rfl⟩
 ·have d:=decide_eq_false (show¬(es.length:Int)=es'.length by omega)
  simp only[go_sem,d];exact Ae (r:=boo false) rfl ⟨by rw[decide_eq_false fun e=>hl (by rw[e])],rfl⟩
theorem El(l:List Fa)(f:Fa)(hl:l.length≤1000000000000)(sl:∀x∈l,x.Sm)(sf:f.Sm):AT Tryz.prog 25 [.sl 4 (faC l),.agg f.cs] σ fun r σ'=>r=boo (decide (f∈l))∧σ'=σ:=by
 refine AT.ob Tryz.func25 rfl ?_;simp only[go_sem];refine Ctx.nil.alloc fun q σ1 c1=>?_;simp only[go_sem,Aa];refine⟨fun m fr σ'=>∃i:Nat,m=l.length-i∧i≤l.length∧σ'=σ1∧f∉l.take i∧fr 0= .sl 4 (faC l)∧fr 3=ptr q∧fr 5=int i,⟨_,0,rfl,by omega,rfl,by simp,rfl,rfl,rfl⟩,?_⟩;rintro m fr σ1 ⟨i,rfl,hi,rfl,hI,f0,f3,f5⟩;simp only[go_sem,f0,f3,f5];refine aIf_by (fun hlt=>?_) (fun hlt=>?_)
 ·have hil:i<l.length:=by omega
  simp only[go_sem,Aa];refine Af [.rd 0 false,.rd 1 false,.rd 2 false,.rd 3 true,.rd 4 true,.ef 5 [],.rd 6 false] ?_;simp only[go_sem,Aa,f0,f3,f5,Aq hil,c1.g0];refine⟨by omega,(Fg (x:=l[i]) (y:=f) .cs .cs (sl _ (List.getElem_mem hil)) sf).p ?_⟩;simp only[go_sem,Aa];refine aIf_by (fun h0=>?_) (fun h0=>?_)
  ·have e:=(Ah.zero _ _).1 h0
   simp only[go_sem,Aa];exact Ad (r:=boo true) rfl _ σ (c1.view _) ⟨by rw[decide_eq_true (e▸List.getElem_mem hil)],rfl⟩
  ·simp only[go_sem,Aa,f0,f3,f5,As i (by omega)]
   refine⟨l.length-(i+1),by omega,i+1,?_⟩;have hI':f∉l.take (i+1):=by
    rw[List.take_add_one,List.getElem?_eq_getElem hil];simp only[Option.toList,List.mem_append,List.mem_singleton,not_or];exact⟨hI,fun e=>h0 ((Ah.zero _ _).2 e.symm)⟩
   (and_intros<;>first|assumption|rfl|omega)
 ·simp only[go_sem,Aa]
  rw[List.take_of_length_le (by omega)]at hI;exact Ad (r:=boo false) rfl _ σ (c1.view _) ⟨by rw[decide_eq_false hI],rfl⟩
theorem Lu(a b:List Fa)(sa:a.length≤1000000000000)(sa':∀x∈a,x.Sm)(sb:b.length≤1000000000000)(sb':∀x∈b,x.Sm):AT Tryz.prog 237 [.sl 4 (faC a),.sl 4 (faC b)] σ fun r σ'=>r=int (Et a b)∧σ'=σ:=by
 refine AT.ob Tryz.func237 rfl ?_;simp only[go_sem,Aa];refine⟨fun m fr σ'=>∃i:Nat,m=a.length-i∧i≤a.length∧i≤b.length∧σ'=σ∧D4 Ai (a.drop i) (b.drop i)=D4 Ai a b∧fr 0= .sl 4 (faC a)∧fr 1= .sl 4 (faC b)∧fr 5=int i,⟨_,0,rfl,by omega,by omega,rfl,rfl,rfl,rfl,rfl⟩,?_⟩;rintro m fr σ ⟨i,rfl,hi1,hi2,rfl,hI,f0,f1,f5⟩;by_cases g:i<a.length∧i<b.length
 ·obtain⟨g1,g2⟩:=g
  rw[Md g1 g2]at hI;have d1:=decide_eq_true (show(i:Int)<a.length by omega);have d2:=decide_eq_true (show(i:Int)<b.length by omega);simp only[go_sem,Aa,f0,f1,f5,d1,d2];refine Af [.rd 0 false,.rd 1 false,.rd 2 false,.rd 3 true,.rd 4 false,.rd 5 false,.rd 6 false,.rd 7 true,.ef 8 [],.rd 9 false] ?_;simp only[go_sem,Aa,f0,f1,f5,Aq g1,Aq g2];refine⟨by omega,by omega,(Fg (x:=a[i]) (y:=b[i]) .cs .cs (sa' _ (List.getElem_mem g1)) (sb' _ (List.getElem_mem g2))).p ?_⟩;simp only[go_sem,Aa];refine aIf_by (fun h0=>?_) (fun h0=>?_)
  ·rw[if_pos h0]at hI
   simp only[go_sem,Aa,f0,f1,f5,As i (by omega)];refine⟨a.length-(i+1),by omega,i+1,?_⟩
   (and_intros<;>first|assumption|rfl|omega)
  ·rw[if_neg h0]at hI
   simp only[go_sem,Aa];exact Ae (r:=int _) rfl ⟨by unfold Et;rw[←hI],rfl⟩
 ·have fin:Et a b=if a.length<b.length then-1 else if b.length<a.length then 1 else 0:=by unfold Et;rw[←hI,Lc hi1 hi2 g]
  by_cases g1:i<a.length
  ·have d1:=decide_eq_true (show(i:Int)<a.length by omega)
   have d2:=decide_eq_false (show¬(i:Int)<b.length by omega);have d3:=decide_eq_false (show¬(a.length:Int)<b.length by omega);have d4:=decide_eq_true (show(b.length:Int)<a.length by omega);rw[if_neg (by omega),if_pos (by omega)]at fin;simp only[go_sem,Aa,f0,f1,f5,d1,d2,d3,d4];exact Ae (r:=int 1) rfl ⟨by rw[fin],rfl⟩
  ·have d1:=decide_eq_false (show¬(i:Int)<a.length by omega)
   simp only[go_sem,Aa,f0,f1,f5,d1];refine aIf_by (fun h0=>?_) (fun h0=>?_)
   ·rw[if_pos (by omega)]at fin
    simp only[go_sem,Aa];exact Ae (r:=int (-1)) rfl ⟨by rw[fin],rfl⟩
   ·rw[if_neg (by omega),if_neg (by omega)]at fin
    have d4:=decide_eq_false (show¬(b.length:Int)<a.length by omega);simp only[go_sem,Aa,f0,f1,d4];exact Ae (r:=int 0) rfl ⟨by rw[fin],rfl⟩
def SmB(b:List Fa):Prop:=b.length≤1000000000000∧∀x∈b,x.Sm
end
section
variable{α:Type}{c:α→α→Int}
def B5(c:α→α→Int)(l:List α):Prop:=l.Pairwise fun x y=>c x y<0
def A1(c:α→α→Int)(b:α):List α→List α
 | []=>[b]
 |x::l=>if c x b<0 then x::A1 c b l else if c x b=0 then x::l else b::x::l
theorem Cs(h:Gp c){b y:α}:∀{l:List α},y∈A1 c b l↔y=b∨y∈l
 | []=>by simp[A1]
 |x::l=>by
  unfold A1;split
  ·rw[List.mem_cons,Cs h,List.mem_cons]
   constructor<;>rintro(h|h|h)<;>simp[h]
  ·split
   ·rename_i h0
    have:=(h.zero x b).1 h0;subst this;simp
   ·simp
theorem Fu(h:Gp c){b:α}:∀{l:List α},B5 c l→B5 c (A1 c b l)
 | [],_=>by simp[A1,B5]
 |x::l,hl=>by
  obtain⟨h1,h2⟩:=List.pairwise_cons.1 hl;unfold A1;split
  ·rename_i hx
   refine List.pairwise_cons.2 ⟨fun y hy=>?_,Fu h h2⟩;rcases(Cs h).1 hy with rfl|hy
   ·exact hx
   ·exact h1 y hy
  ·split
   ·exact hl
   ·rename_i hx h0
    have hb:c b x<0:=(h.anti b x).2 (by omega)
    exact List.pairwise_cons.2 ⟨fun y hy=>by
     rcases List.mem_cons.1 hy with rfl|hy
     ·exact hb
     ·exact h.trans _ _ _ hb (h1 y hy),hl⟩
theorem I9{b:α}:∀{l:List α},(A1 c b l).length≤l.length+1
 | []=>by simp[A1]
 |x::l=>by
  unfold A1;have:=I9 (b:=b) (l:=l);split
  ·simp only[List.length_cons];omega
  ·split<;>simp
theorem Acn{b:α}:∀{l:List α},l.length≤(A1 c b l).length
 | []=>by simp[A1]
 |x::l=>by
  unfold A1;have:=Acn (b:=b) (l:=l);split
  ·simp only[List.length_cons];omega
  ·split<;>simp
theorem Ih{b:α}:∀{l:List α} {k:Nat},k≤l.length→(∀i (hi:i<k) (hl:i<l.length),c l[i] b<0)→(∀hk:k<l.length,¬c l[k] b<0)→
  A1 c b l=if(∃hk:k<l.length,c l[k] b=0)then l else l.take k++b::l.drop k
 | [],k,hk,_,_=>by
  have:k=0:=by simpa using hk
  subst this;rw[if_neg (by rintro⟨h,_⟩;simp at h)];simp[A1]
 |x::l,0,hk,h1,h2=>by
  unfold A1;have hx:¬c x b<0:=h2 (by simp);rw[if_neg hx];by_cases h0:c x b=0
  ·rw[if_pos h0,if_pos ⟨by simp,h0⟩]
  ·rw[if_neg h0,if_neg (by rintro⟨_,h⟩;exact h0 h)]
   simp
 |x::l,k+1,hk,h1,h2=>by
  unfold A1;rw[if_pos (show c x b<0 from h1 0 (by omega) (by simp)),Ih (l:=l) (k:=k) (by simpa using hk) (fun i hi hl=>h1 (i+1) (by omega) (by simpa using hl)) (fun hk=>h2 (by simpa using hk))];by_cases h0:∃hk:k<l.length,c l[k] b=0
  ·obtain⟨g1,g2⟩:=h0
   rw[if_pos ⟨g1,g2⟩,if_pos ⟨by simpa using g1,g2⟩]
  ·rw[if_neg h0,if_neg (by rintro⟨g1,g2⟩;exact h0 ⟨by simpa using g1,g2⟩)]
   simp
theorem D2(h:Gp c):∀{l k:List α},B5 c l→B5 c k→(∀y,y∈l↔y∈k)→l=k
 | [],[],_,_,_=>rfl
 | [],y::k,_,_,hm=>by have:=(hm y).2 (by simp);cases this
 |x::l,[],_,_,hm=>by have:=(hm x).1 (by simp);cases this
 |x::l,y::k,hl,hk,hm=>by
  obtain⟨h1,h2⟩:=List.pairwise_cons.1 hl;obtain⟨k1,k2⟩:=List.pairwise_cons.1 hk;have irr:∀z,¬c z z<0:=fun z hz=>by rw[h.self]at hz;omega
  have hxy:x=y:=by
   rcases List.mem_cons.1 ((hm x).1 (by simp))with e|e
   ·exact e
   ·rcases List.mem_cons.1 ((hm y).2 (by simp))with e'|e'
    ·exact e'.symm
    ·exact absurd (h.trans _ _ _ (k1 x e) (h1 y e')) (irr _)
  subst hxy;have nl:x∉l:=fun hx=>irr _ (h1 x hx);have nk:x∉k:=fun hx=>irr _ (k1 x hx);rw[D2 h h2 k2 fun y=>?_];constructor
  ·intro hy
   rcases List.mem_cons.1 ((hm y).1 (List.mem_cons_of_mem _ hy))with e|e
   ·subst e;exact absurd hy nl
   ·exact e
  ·intro hy
   rcases List.mem_cons.1 ((hm y).2 (List.mem_cons_of_mem _ hy))with e|e
   ·subst e;exact absurd hy nk
   ·exact e
theorem Hn(h:Gp c){l:List α}(hl:B5 c l):l.Nodup:=hl.imp fun{x y} hxy e=>by subst e;rw[h.self]at hxy;omega
def Aw(c:α→α→Int)(s l:List α):List α:=l.foldl (fun s b=>A1 c b s) s
theorem Bh(h:Gp c):∀{l s:List α},B5 c s→B5 c (Aw c s l)
 | [],s,hs=>hs
 |x::l,s,hs=>Bh h (l:=l) (Fu h hs)
theorem Ar(h:Gp c){y:α}:∀{l s:List α},y∈Aw c s l↔y∈l∨y∈s
 | [],s=>by simp[Aw]
 |x::l,s=>by
  have:Aw c s (x::l)=Aw c (A1 c x s) l:=rfl;rw[this,Ar h,Cs h,List.mem_cons];constructor
  ·rintro(g|g|g)<;>simp[g]
  ·rintro((g|g)|g)<;>simp[g]
theorem Ef(s l m:List α):Aw c s (l++m)=Aw c (Aw c s l) m:=by simp[Aw,List.foldl_append]
theorem Bn:∀{l s:List α},(Aw c s l).length≤s.length+l.length
 | [],s=>by simp[Aw]
 |x::l,s=>by
  have h:Aw c s (x::l)=Aw c (A1 c x s) l:=rfl;have h1:=Bn (l:=l) (s:=A1 c x s);have h2:=I9 (c:=c) (b:=x) (l:=s);rw[h,List.length_cons];omega
def M2(e:α→α→Bool):List α→List α
 | []=>[]
 | [x]=>[x]
 |x::y::l=>if e y x=true then M2 e (x::l)else x::M2 e (y::l)
termination_by l=>l.length
theorem Rz(e:α→α→Bool)(he:∀x y,e x y=true↔x=y)(y:α):∀l:List α,y∈M2 e l↔y∈l
 | []=>by simp[M2]
 | [x]=>by simp[M2]
 |x::z::l=>by
  unfold M2;split
  ·rename_i h
   rw[Rz e he y (x::l),(he _ _).1 h];simp
  ·rw[List.mem_cons,Rz e he y (z::l),List.mem_cons (a:=y) (b:=x)]
termination_by l=>l.length
theorem Qg(h:Gp c){e:α→α→Bool}(he:∀x y,e x y=true↔x=y):∀{l:List α},l.Pairwise (fun x y=>c x y≤0)→B5 c (M2 e l)
 | [],_=>by simp[M2,B5]
 | [x],_=>by simp[M2,B5]
 |x::z::l,hl=>by
  obtain⟨h1,h2⟩:=List.pairwise_cons.1 hl;unfold M2;split
  ·rename_i hz
   rw[(he _ _).1 hz]at h2;exact Qg h he h2
  ·rename_i hz
   refine List.pairwise_cons.2 ⟨fun y hy=>?_,Qg h he h2⟩;rw[Rz e he]at hy;have hxz:c x z<0:=by
    have:=h1 z (by simp);have h0:c x z≠0:=fun h0=>hz ((he _ _).2 ((h.zero _ _).1 h0).symm);omega
   rcases List.mem_cons.1 hy with rfl|hy
   ·exact hxz
   ·have:=(List.pairwise_cons.1 h2).1 y hy
    by_cases h0:c z y=0
    ·rw[←(h.zero _ _).1 h0];exact hxz
    ·exact h.trans _ _ _ hxz (by omega)
termination_by l=>l.length
theorem S2(h:Gp c){e:α→α→Bool}(he:∀x y,e x y=true↔x=y){l k m:List α}(hp:k.Perm l)(hs:k.Pairwise fun x y=>c x y≤0)(hm:l.Perm m):M2 e k=Aw c [] m:=
 D2 h (Qg h he hs) (Bh h .nil) fun y=>by
  rw[Rz e he,Ar h,hp.mem_iff,hm.mem_iff];simp
theorem Wa[Inhabited α](h:∀x y,c x y<0↔0<c y x){d:Array α}(hs:Go.Sort.SortedIn (ltc c) 0 d.size d):d.toList.Pairwise fun x y=>c x y≤0:=by
 rw[List.pairwise_iff_getElem];intro i j hi hj hij;have:=hs i j (Nat.zero_le _) hij (by simpa using hj);unfold ltc at this;rw[decide_eq_false_iff_not]at this;rw[getElem!_pos d i (by simpa using hi),getElem!_pos d j (by simpa using hj)]at this;have h1:=h (d.toList[i]) (d.toList[j]);have h2:=h (d.toList[j]) (d.toList[i]);simp only[Array.getElem_toList]at h1 h2⊢;omega
end
def lvF(ho:Tm):List (Li×List Fa)→List Bi→List Fa→List (List Fa)
 | [],_,got=>[got]
 |p::ls,env,got=>p.2.flatMap fun x=>match Be ho p.1 x env with
  |some e=>lvF ho ls e (got++[x])
  |none=>[]
def frm(ho:Tm):List (Li×List Fa)→List Bi→List Fa→List (List Fa)×Nat→List (List Fa)×Nat
 | [],_,got,s=>(A1 Et got s.1,s.2)
 |p::ls,env,got,s=>p.2.foldl (fun s x=>if 30000<s.2 then s else match Be ho p.1 x env with
  |some e=>frm ho ls e (got++[x]) (s.1,s.2+1)
  |none=>(s.1,s.2+1)) s
theorem Ajy(ho:Tm):∀(ls:List (Li×List Fa)) (env:List Bi) (got:List Fa) (s:List (List Fa)×Nat),s.2≤(frm ho ls env got s).2
 | [],env,got,s=>Nat.le_refl _
 |p::ls,env,got,s=>by
  unfold frm;generalize p.2=l
  induction l generalizing s with
  |nil=>exact Nat.le_refl _
  |cons x l ih=>
   rw[List.foldl_cons];refine Nat.le_trans ?_ (ih _);split
   ·exact Nat.le_refl _
   ·split
    ·exact Nat.le_trans (Nat.le_succ s.2) (Ajy ho ls _ _ (s.1,s.2+1))
    ·exact Nat.le_succ _
theorem Ajz(ho:Tm):∀(ls:List (Li×List Fa)) (env:List Bi) (got:List Fa) (s:List (List Fa)×Nat),(frm ho ls env got s).2≤30000→
  (frm ho ls env got s).1=Aw Et s.1 (lvF ho ls env got)∧(lvF ho ls env got).length+s.2≤(frm ho ls env got s).2+(if ls=[]then 1 else 0)
 | [],env,got,s,h=>⟨rfl,by simp[lvF,frm];omega⟩
 |p::ls,env,got,s,h=>by
  rw[if_neg (by simp)];unfold frm lvF at*;generalize p.2=l at*
  induction l generalizing s with
  |nil=>exact⟨rfl,by simp⟩
  |cons x l ih=>
   rw[List.foldl_cons]at h⊢;rw[List.flatMap_cons,Ef]
   have mono:∀(l:List Fa) (s:List (List Fa)×Nat),s.2≤(l.foldl (fun s x=>if 30000<s.2 then s else match Be ho p.1 x env with
     |some e=>frm ho ls e (got++[x]) (s.1,s.2+1)
     |none=>(s.1,s.2+1)) s).2:=by
    intro l s;have:=Ajy ho ((p.1,l)::ls) env got s;unfold frm at this;exact this
   have hm:=mono l (if 30000<s.2 then s else match Be ho p.1 x env with
     |some e=>frm ho ls e (got++[x]) (s.1,s.2+1)
     |none=>(s.1,s.2+1))
   have hs:¬30000<s.2:=fun hs=>by rw[if_pos hs]at hm h;omega
   rw[if_neg hs]at hm h⊢;obtain⟨i1,i2⟩:=ih _ h;rw[i1,List.length_append];cases hx:Be ho p.1 x env with
   |none=>
    rw[hx]at i2;exact⟨rfl,by simp only[List.length_nil]at i2⊢;omega⟩
   |some e=>
    rw[hx]at i2 hm h;simp only at i2 hm h⊢;obtain⟨j1,j2⟩:=Ajz ho ls e (got++[x]) (s.1,s.2+1) (by omega);refine⟨by rw[j1],?_⟩;split at j2<;>simp only at j2<;>omega
theorem Xa(ho:Tm)(bo:List Li)(cand:Nat→List Fa):∀(m k:Nat) (env:List Bi) (got:List Fa),got.length=k+m→
  Ce ho bo cand (List.range' k m) env got=lvF ho ((List.range' k m).map fun i=>(bo.getD i .zero,cand i)) env (got.take k)
 |0,k,env,got,h=>by
  rw[Nat.add_zero]at h;show[got]=[got.take k];rw[List.take_of_length_le (by omega)]
 |m+1,k,env,got,h=>by
  rw[List.range'_succ,List.map_cons,Ce,lvF];simp only
  congr 1
  funext x;cases Be ho (bo.getD k .zero) x env with
  |none=>rfl
  |some e=>
   simp only;rw[Xa ho bo cand m (k+1) e (got.set k x) (by simp;omega)]
   congr 1
   rw[List.take_add_one,List.take_set_of_le (by omega)];simp[show k<got.length by omega]
theorem Zv{ho:Tm}{bo:List Li}{cand:Nat→List Fa}:∀(o:List Nat) (env:List Bi) (got got':List Fa),got.length=got'.length→(∀i,i∉o→got[i]? =got'[i]?)→Ce ho bo cand o env got=Ce ho bo cand o env got'
 | [],env,got,got',h,hi=>by
  rw[show got=got' from List.ext_getElem? fun i=>hi i (by simp)]
 |k::o,env,got,got',h,hi=>by
  rw[Ce,Ce]
  congr 1
  funext x;cases Be ho (bo.getD k .zero) x env with
  |none=>rfl
  |some e=>
   refine Zv o e _ _ (by simpa using h) fun i hin=>?_;by_cases hk:i=k
   ·subst hk
    simp[List.getElem?_set,h]
   ·rw[List.getElem?_set_ne (Ne.symm hk),List.getElem?_set_ne (Ne.symm hk)]
    exact hi i (by simp[hk,hin])
def Ow(q:Nat)(σ:St)(v:AV)(es:List (List AV)):Prop:=(es=[]∧(v=A4∨v= .fsl q []))∨∃b cap,v=slv b es.length cap∧es.length≤cap∧σ b=some (.rows q es false cap)
section
variable{q:Nat}{σ σ':St}{v:AV}{es:List (List AV)}
theorem Ow.lat(h:Ow q σ v es):LAt q σ v es:=by
 rcases h with⟨rfl,rfl|rfl⟩|⟨b,cap,rfl,h1,h2⟩
 ·exact .none
 ·exact .full
 ·exact .inr (.inr ⟨b,cap,rfl,h1,h2⟩)
theorem Ow.keep(h:Ow q σ v es)(hs:∀x o,σ x=some o→Own v x→σ' x=some o):Ow q σ' v es:=by
 rcases h with h|⟨b,cap,rfl,h1,h2⟩
 ·exact .inl h
 ·exact .inr ⟨b,cap,rfl,h1,hs _ _ h2 (B6.2 rfl)⟩
theorem Ow.sub(h:Ow q σ v es)(hs:∀x o,σ x=some o→σ' x=some o):Ow q σ' v es:=h.keep fun x o hx _=>hs x o hx
theorem Ow.of_app{eby:Nat}{s:AV}{es ys:List (List AV)}{k:AV→St→Prop}(h:LAt q σ s es)(hy:ys≠[])(hb:(es.length+ys.length)*eby≤140737488355328)
  (hk:∀v' σ',Ow q σ' v' (es++ys)→(∀x o,σ x=some o→¬Own s x→σ' x=some o∧¬Own v' x)→(∀x,Own v' x→∃c,σ' x=some (.rows q (es++ys) false c))→k v' σ'):F9 q eby ys σ s k:=
 h.app_row hy hb fun b cap σ' h1 h2 h3=>hk _ σ' (.inr ⟨b,cap,by rw[List.length_append],by rw[List.length_append];exact h1,h2⟩) (fun x o hx hn=>⟨(h3 x o hx hn).1,fun ho=>(h3 x o hx hn).2 (B6.1 ho)⟩) fun x hx=>⟨cap,by rw[B6.1 hx];exact h2⟩
end
section
variable{σ:St}
@[go_sem] theorem Au0{P:Program}{t:TypeId}{q:Nat}{es:List (List AV)}{K:AV→Prop}:D9 P .eql t (.fsl q es) (.v (.slice none 0 0)) K=(Fi P t=true∧(es≠[]→K (.v (.bool false)))∧(es=[]→∀b,K (.v (.bool b)))):=_root_.id rfl
theorem Qe{v:AV}(l:List Cn)(hl:l.length≤1000000000000)(hv:Rd 3 σ v (cnC l)):AT Tryz.prog 58 [v] σ fun r σ'=>Ow 3 σ' r (cnC l)∧Cg σ σ' r:=by
 refine AT.ob Tryz.func58 rfl ?_;have hsrc:src 3 false σ v=some (cnC l):=by
  rcases hv with rfl|h
  ·simp[src]
  ·exact Ao3 (by decide) h
 have key:∀{k:AV→St→Prop},(∀r σ',Ow 3 σ' r (cnC l)→Cg σ σ' r→k r σ')→F9 3 32 (cnC l) σ (.fsl 3 []) k:=fun{k} hk=>by
  by_cases he:cnC l=[]
  ·rw[he]at hk⊢
   exact⟨rfl,fun _=>hk _ _ (.inl ⟨rfl,.inr rfl⟩) fun y p hy=>⟨hy,A3⟩,fun h=>absurd rfl h⟩
  ·exact Ow.of_app .full he (by rw[Hy];simp only[List.length_nil];omega) fun lv σ1 h1 h2 _=>hk _ _ h1 fun y p hy=>h2 y p hy A3
 rcases hv with rfl|⟨rfl,he⟩|rfl|⟨b,cap,rfl,_,_⟩
 case' inr.inl=>
  simp only[go_sem];exact Ae (r:=A4) rfl ⟨.inl ⟨he,.inl rfl⟩,.nil⟩
 all_goals simp only[go_sem]
 case' inl=>refine⟨fun he=>?_,fun he b=>?_⟩
 case' inr.inr.inl=>refine⟨fun he=>?_,fun he b=>?_⟩
 case' inl.refine_2=>refine aIf_bool (fun _=>?_) (fun _=>?_)
 case' inr.inr.inl.refine_2=>refine aIf_bool (fun _=>?_) (fun _=>?_)
 case' inl.refine_2.refine_1=>
  simp only[go_sem];exact Ae (r:=A4) rfl ⟨.inl ⟨he,.inl rfl⟩,.nil⟩
 case' inr.inr.inl.refine_2.refine_1=>
  simp only[go_sem];exact Ae (r:=A4) rfl ⟨.inl ⟨he,.inl rfl⟩,.nil⟩
 case' inl.refine_2.refine_2=>simp only[go_sem]
 case' inr.inr.inl.refine_2.refine_2=>simp only[go_sem]
 case' inr.inr.inr=>rw[Hy]at hsrc
 all_goals
  refine Ap (ys:=cnC l) hsrc (by decide) (by decide) (by decide) (key fun lv σ1 h1 h2=>?_);simp only[go_sem];exact Ae (r:=lv) rfl ⟨h1,h2⟩
theorem Agr{v:AV}(l:List Fa)(hl:l.length≤1000000000000)(h:∃b c,v=slv b l.length c∧σ b=some (.rows 4 (faC l) false c)):AT Tryz.prog 133 [v] σ fun r σ'=>Ow 4 σ' r (faC l)∧Cg σ σ' r∧∀x,Own r x→σ x=none:=by
 obtain⟨b,c,rfl,hb⟩:=h;refine AT.ob Tryz.func133 rfl ?_;simp only[go_sem];have hsrc:src 4 false σ (slv b l.length c)=some (faC l):=by
  simp only[src,hb];rw[if_pos ⟨trivial,by simp,by simp[faC]⟩];simp only[Nat.zero_div,List.drop_zero];rw[List.take_of_length_le (by rw[Aj];omega)]
 by_cases he:faC l=[]
 ·refine Ap (ys:=faC l) hsrc (by decide) (by decide) (by decide) ?_
  rw[he];refine⟨rfl,fun _=>?_,fun h=>absurd rfl h⟩;simp only[go_sem];exact Ae (r:=.fsl 4 []) rfl ⟨.inl ⟨rfl,.inr rfl⟩,fun y p hy=>⟨hy,A3⟩,fun x hx=>absurd hx A3⟩
 ·refine Ap (ys:=faC l) hsrc (by decide) (by decide) (by decide) (Ow.of_app .full he (by rw[Aj];simp only[List.length_nil];omega) fun lv σ1 h1 h2 _=>?_)
  simp only[go_sem];have hG:Cg σ σ1 lv:=fun y p hy=>h2 y p hy A3;exact Ae (r:=lv) rfl ⟨h1,hG,fun x hx=>hG.own hx⟩
theorem Y8{a b:List Fa}{v w:AV}(ha:Rd 4 σ v (faC a))(hb:Rd 4 σ w (faC b))(sa:SmB a)(sb:SmB b):AT Tryz.prog 163 [v,w,fnv 112] σ fun r σ'=>r=int (Et a b)∧σ'=σ:=by
 refine AT.ob Tryz.func163 rfl ?_;have s1:=sa.1;have s2:=sb.1;simp only[go_sem,Aa,ha.len,Aj];refine⟨fun m fr σ'=>∃i:Nat,m=a.length-i∧i≤a.length∧i≤b.length∧(∀x o,σ x=some o→σ' x=some o)∧D4 Ai (a.drop i) (b.drop i)=D4 Ai a b∧fr 0=v∧fr 1=w∧fr 2=fnv 112∧fr 11=v∧fr 12=int a.length∧fr 13=int i,⟨_,0,rfl,by omega,by omega,fun _ _ h=>h,rfl,rfl,rfl,rfl,rfl,rfl,rfl⟩,?_⟩;rintro m fr σ1 ⟨i,rfl,h1,h2,hs,hI,f0,f1,f2,f11,f12,f13⟩;have c0:Ctx σ [] σ1:=⟨hs,fun p hp=>(by cases hp),fun p hp=>(by cases hp),List.nodup_nil⟩;have ha1:=ha.keep hs;have hb1:=hb.keep hs;simp only[go_sem,f12,f13];refine aIf_by (fun hlt=>?_) (fun hlt=>?_)
 ·have hia:i<a.length:=by omega
  simp only[go_sem,Aa,f11,f13];refine ha1.elem (by omega) (by rw[Aj];omega) fun p hp=>?_;simp only[go_sem,Aa];refine hp.load (by decide) (by rw[Int.toNat_natCast,Aq hia];exact Nat.le_refl 4) ?_;simp only[go_sem,Aa,Aq hia];refine c0.alloc fun t8 σ2 c1=>?_;obtain⟨σ3,e3,c2⟩:=c1.abs 0 rfl (.cells a[i].cs);have hb2:=hb.keep c2.sub;simp only[go_sem,Aa,c1.g0,e3,f1,hb1.len,Aj];by_cases hib:i<b.length
  ·have d:=decide_eq_false (show¬(b.length:Int)≤i by omega)
   simp only[go_sem,Aa,f1,f13,d];refine hb2.elem (by omega) (by rw[Aj];omega) fun p' hp'=>?_;simp only[go_sem,Aa];refine hp'.load (by decide) (by rw[Int.toNat_natCast,Aq hib];exact Nat.le_refl 4) ?_;simp only[go_sem,Aa,Aq hib];refine c2.alloc fun t9 σ4 c3=>?_;obtain⟨σ5,e5,c4⟩:=c3.abs 0 rfl (.cells b[i].cs);simp only[go_sem,Aa,c3.g1,e5,c4.g1,f2];refine(I5 a[i] b[i] (sa.2 _ (List.getElem_mem hia)) (sb.2 _ (List.getElem_mem hib))).p ?_;simp only[go_sem,Aa];rw[Md hia hib]at hI;refine aIf_by (fun h0=>?_) (fun h0=>?_)
   ·rw[if_pos h0]at hI
    simp only[go_sem,Aa,f0,f1,f2,f11,f12,f13,As i (by omega)];refine⟨a.length-(i+1),by omega,i+1,?_⟩;have hs':=c4.sub
    (and_intros<;>first|assumption|rfl|omega)
   ·rw[if_neg h0]at hI
    simp only[go_sem,Aa];exact Ad (r:=int _) rfl _ σ (c4.view _) ⟨by unfold Et;rw[←hI],rfl⟩
  ·have d:=decide_eq_true (show(b.length:Int)≤i by omega)
   have fin:Et a b=1:=by
    unfold Et;rw[←hI,Lc h1 h2 (by omega),if_neg (by omega),if_pos (by omega)]
   simp only[go_sem,Aa,f1,f13,d];exact Ad (r:=int 1) rfl _ σ (c2.view _) ⟨by rw[fin],rfl⟩
 ·have fin:Et a b=if a.length<b.length then-1 else 0:=by
   unfold Et;rw[←hI,Lc h1 h2 (by omega),if_neg (show¬b.length<a.length by omega)]
  simp only[go_sem,Aa,f0,f1,ha1.len,hb1.len,Aj];refine aIf_by (fun h0=>?_) (fun h0=>?_)
  ·rw[if_pos (by omega)]at fin
   simp only[go_sem,Aa];exact Ad (r:=int (-1)) rfl _ σ (c0.view _) ⟨by rw[fin],rfl⟩
  ·rw[if_neg (by omega)]at fin
   simp only[go_sem,Aa];exact Ad (r:=int 0) rfl _ σ (c0.view _) ⟨by rw[fin],rfl⟩
theorem orderB_at{a b:List Fa}{v w:AV}(ha:Rd 4 σ v (faC a))(hb:Rd 4 σ w (faC b))(sa:SmB a)(sb:SmB b):AT Tryz.prog 103 [v,w] σ fun r σ'=>r=int (Et a b)∧σ'=σ:=by
 refine AT.ob Tryz.func103 rfl ?_;simp only[go_sem];refine(Y8 ha hb sa sb).mono ?_;rintro _ σ' ⟨rfl,rfl⟩;simp only[go_sem];exact Ae (r:=int _) rfl ⟨rfl,rfl⟩
theorem eqB_at{a b:List Fa}{v w:AV}(ha:Rd 4 σ v (faC a))(hb:Rd 4 σ w (faC b))(sa:SmB a)(sb:SmB b):AT Tryz.prog 105 [v,w] σ fun r σ'=>r=boo (decide (a=b))∧σ'=σ:=by
 refine AT.ob Tryz.func105 rfl ?_;simp only[go_sem];refine(orderB_at ha hb sa sb).mono ?_;rintro _ σ' ⟨rfl,rfl⟩;simp only[go_sem];exact Ae (r:=boo _) rfl ⟨by rw[decide_eq_decide.2 (Dm.zero a b)],rfl⟩
end
theorem spl1{α:Type}{A R:List α}{x z:α}{i:Nat}(h:A.length=i):List.take i (A++z::R)++[x]++List.drop (i+1) (A++z::R)=A++x::R:=by
 subst h;simp[List.drop_append]
theorem spl2{α:Type}{A B R:List α}{x:α}{i:Nat}(h:A.length=i)(hr:R.length=B.length):List.take (i+1) (A++x::R)++B++List.drop (i+1+B.length) (A++x::R)=A++x::B:=by
 subst h;rw[List.drop_of_length_le (by simp;omega)];have:List.take (A.length+1) (A++x::R)=A++[x]:=by
  rw[List.take_append,List.take_of_length_le (by omega)];simp
 rw[this];simp
theorem spl3{α:Type}{A B:List α}{x y:α}{i:Nat}(h:A.length=i):List.take i (List.take (i+1) (A++y::B)++(y::B)++List.drop (i+1+(y::B).length) (A++y::B))++[x]++List.drop (i+1) (List.take (i+1) (A++y::B)++(y::B)++List.drop (i+1+(y::B).length) (A++y::B))=A++x::y::B:=by
 subst h;rw[List.drop_of_length_le (l:=A++y::B) (by simp)];have:List.take (A.length+1) (A++y::B)=A++[y]:=by
  rw[List.take_append,List.take_of_length_le (by omega)];simp
 rw[this];simp[List.drop_append]
section
variable{ag byt:Bool}{sz q eby b n c l h:Nat}{zr ez:List Value}{ik:IntKind}{σ:St}{K:AV→Prop}{k:AV→St→Prop}
theorem Fw{j:Int}(hj:j=h)(hn:h≤c)(hk:K (slv b h c)):aSli (some ⟨ag,sz,zr,.sl q eby ez byt⟩) σ (slv b n c) .none (some (.v (.int ik j))) .none K:=by
 subst hj;refine .inl ⟨b,0,n,c,rfl,0,h,c,rfl,rfl,.inl ⟨rfl,rfl⟩,by omega,by omega,by omega,by omega,?_⟩;have e:Gn (c:Int).toNat (0:Int).toNat 0 q=0:=by
  unfold Gn;split<;>simp
 rw[e];simpa using hk
theorem D3{j:Int}{p:Nat}(hj:j=l)(hp:p=l*q)(h0:l≤n)(hn:n≤c)(hlc:l<c)(hk:K (.v (.slice (some ⟨b,p,none⟩) (n-l) (c-l)))):aSli (some ⟨ag,sz,zr,.sl q eby ez byt⟩) σ (slv b n c) (some (.v (.int ik j))) .none .none K:=by
 subst hj;exact B2 hp h0 hn hlc hk
theorem Pu{j j':Int}{p:Nat}(hj:j=l)(hj':j'=h)(hp:p=l*q)(h0:l≤h)(hn:h≤c)(hlc:l<c)(hk:K (.v (.slice (some ⟨b,p,none⟩) (h-l) (c-l)))):aSli (some ⟨ag,sz,zr,.sl q eby ez byt⟩) σ (slv b n c) (some (.v (.int ik j))) (some (.v (.int ik j'))) .none K:=by
 subst hj hj' hp;refine .inl ⟨b,0,n,c,rfl,l,h,c,rfl,rfl,.inl ⟨rfl,rfl⟩,by omega,by omega,by omega,by omega,?_⟩;have e:Gn (c:Int).toNat (l:Int).toNat 0 q=l*q:=by
  unfold Gn;rw[if_neg (by simp;omega)];simp
 rw[e];simpa using hk
theorem V9{j j' j'':Int}{m:Nat}(hj:j=l)(hj':j'=h)(hj'':j''=m)(h0:l≤h)(hn:h≤m)(hm:m≤c)(hk:∀x,K x):aSli (some ⟨ag,sz,zr,.sl q eby ez byt⟩) σ (slv b n c) (some (.v (.int ik j))) (some (.v (.int ik j'))) (some (.v (.int ik j''))) K:=by
 subst hj hj' hj'';exact .inl ⟨b,0,n,c,rfl,l,h,m,rfl,rfl,.inr ⟨by simp,by simp,rfl⟩,by omega,by omega,by omega,by omega,hk _⟩
theorem Hk{s:AV}{m cc cap p:Nat}{es ys:List (List AV)}(hp:p=m*q)(hb:σ b=some (.rows q es false cap))(hq:0<q)(hc:cut q σ s n=some ys)(h1:m≤es.length)(h2:m+ys.length≤cap)
  (hk:k (.v (.int .i64 ys.length)) (σ.set b (.rows q (es.take m++ys++es.drop (m+ys.length)) false cap))):U0 (some ⟨ag,sz,zr,.sl q eby ez byt⟩) σ (.v (.slice (some ⟨b,p,none⟩) n cc)) s k:=
 ⟨hq,es,cap,ys,m,hb,hp,hc,h1,h2,hk⟩
theorem R0{m n' cc cap p:Nat}{es:List (List AV)}(hp:p=m*q)(hq:0<q)(hb:σ b=some (.rows q es false cap))(hm:m+min n' n≤es.length):cut q σ (.v (.slice (some ⟨b,p,none⟩) n' cc)) n=some ((es.drop m).take (min n' n)):=by
 subst hp;simp only[cut,src,hb,Nat.mul_div_cancel _ hq,Nat.mul_mod_left];rw[if_pos ⟨trivial,trivial,hm⟩]
theorem Yz{ag2:Bool}{sz2:Nat}{zr2:List Value}{ik2:IntKind}{es:List (List AV)}{m cap cap':Nat}{frz:Bool}{j:Int}(hj:j=m)(hb:σ b=some (.rows q es frz cap'))(hn:n≤es.length)(hq:0<q)(he:0<eby)(hz:ez.all Value.oneCell'=true)(hm:0<m)(hr:cap<n+m)(hbd:(n+m)*eby≤140737488355328)
  (hk:∀b' c',σ b'=none→n+m≤c'→k (slv b' (n+m) c') (σ.set b' (.rows q (es.take n++List.replicate m (ez.map .v)) false c'))):
  aAppN (some ⟨ag,sz,zr,.sl q eby ez byt⟩) (some ⟨ag2,sz2,zr2,.int ik2⟩) σ (slv b n cap) (.v (.int ik j)) k:=by
 subst hj;refine⟨hq,he,hz,by omega,by omega,by rw[Int.toNat_natCast];exact hbd,es,frz,cap',hb,hn,fun b' c' h1 h2=>?_⟩;rw[Int.toNat_natCast]at h2⊢;exact hk b' c' h1 h2
end
abbrev slp(b p n c:Nat):AV:=.v (.slice (some ⟨b,p,none⟩) n c)
def Jd(v:AV)(x:Nat):Prop:=∃p n c,v=slp x p n c
def LQ(q:Nat)(σ:St)(v:AV)(es:List (List AV)):Prop:=
 (v=A4∧es=[])∨∃b pre post c cap,v=slp b (pre.length*q) es.length c∧σ b=some (.rows q (pre++es++post) false cap)∧(pre++es++post).length≤cap∧((post=[]∧c+pre.length=cap)∨(es=[]∧c=0))
section
variable{q:Nat}{σ σ':St}{v:AV}{es ys:List (List AV)}{K:AV→Prop}{k:AV→St→Prop}
theorem T4{x:Nat}:¬Jd A4 x:=fun⟨p,n,c,e⟩=>by cases e
theorem Ey{b p n c x:Nat}:Jd (slp b p n c) x↔x=b:=by
 constructor
 ·rintro⟨p',n',c',e⟩
  simp only[AV.v.injEq,Value.slice.injEq,Option.some.injEq,Addr.mk.injEq]at e;exact e.1.1.symm
 ·rintro rfl;exact⟨_,_,_,rfl⟩
theorem LQ.nil:LQ q σ A4 []:=.inl ⟨rfl,rfl⟩
theorem LQ.rows(h:LQ q σ v es){x:Nat}(ho:Jd v x):∃rs cap,σ x=some (.rows q rs false cap):=by
 rcases h with⟨rfl,_⟩|⟨b,pre,post,c,cap,rfl,hb,_,_⟩
 ·exact absurd ho T4
 ·rw[Ey.1 ho];exact⟨_,_,hb⟩
theorem LQ.keep(h:LQ q σ v es)(hs:∀x o,σ x=some o→Jd v x→σ' x=some o):LQ q σ' v es:=by
 rcases h with⟨rfl,he⟩|⟨b,pre,post,c,cap,rfl,hb,hl,hc⟩
 ·exact .inl ⟨rfl,he⟩
 ·exact .inr ⟨b,pre,post,c,cap,rfl,hs b _ hb (Ey.2 rfl),hl,hc⟩
theorem LQ.not_cells(h:LQ q σ v es){x:Nat}{cs:List AV}(hx:σ x=some (.cells cs)):¬Jd v x:=fun ho=>by
 obtain⟨r,c,hc⟩:=h.rows ho;rw[hx]at hc;cases hc
theorem LQ.cells(h:LQ q σ v es):v.cells=[v]:=by rcases h with⟨rfl,_⟩|⟨b,pre,post,c,cap,rfl,_⟩<;>rfl
theorem LQ.one(h:LQ q σ v es):v.one=true:=by rcases h with⟨rfl,_⟩|⟨b,pre,post,c,cap,rfl,_⟩<;>rfl
theorem LQ.len{ag:Bool}{sz eby:Nat}{zr ez:List Value}{byt:Bool}(h:LQ q σ v es):K6 (some ⟨ag,sz,zr,.sl q eby ez byt⟩) v K=K (.v (.int .i64 es.length)):=by
 rcases h with⟨rfl,rfl⟩|⟨b,pre,post,c,cap,rfl,_⟩<;>rfl
theorem LQ.first{ag:Bool}{sz eby:Nat}{zr ez:List Value}{byt:Bool}{ik:IntKind}{e:List AV}(h:LQ q σ v (e::es))(hq:0<q)(he:e.length=q)
  (hk:∀p,(∀(zr':List Value) (td:TD) (K':AV→Prop),K' (.agg e)→Da (some ⟨true,q,zr',td⟩) σ p K')→K p):Fs (some ⟨ag,sz,zr,.sl q eby ez byt⟩) σ v (.v (.int ik 0)) K:=by
 rcases h with⟨_,h⟩|⟨b,pre,post,c,cap,rfl,hb,hl,hc⟩
 ·cases h
 ·refine Ox (l:=pre.length) rfl hq (by omega) (by simp) (hk _ fun zr' td K' hK=>?_)
  simp only[Da,hb];have e1:(pre++e::es++post).getD (pre.length+(0:Int).toNat) []=e:=by
   simp[List.getD_eq_getElem?_getD,List.getElem?_append_right]
  rw[e1];simp only[if_true,List.drop_zero];rw[List.take_of_length_le (by omega)];exact⟨trivial,by simp,by omega,hK⟩
theorem LQ.tail{ag:Bool}{sz eby:Nat}{zr ez:List Value}{byt:Bool}{ik:IntKind}{e:List AV}(h:LQ q σ v (e::es))
  (hk:∀v',LQ q σ v' es→(∀x,Jd v' x↔Jd v x)→K v'):aSli (some ⟨ag,sz,zr,.sl q eby ez byt⟩) σ v (some (.v (.int ik 1))) .none .none K:=by
 rcases h with⟨_,h⟩|⟨b,pre,post,c,cap,rfl,hb,hl,hc⟩
 ·cases h
 ·obtain⟨rfl,hc⟩:post=[]∧c+pre.length=cap:=by
   rcases hc with hc|⟨h,_⟩
   ·exact hc
   ·cases h
  simp only[List.length_append,List.length_cons,List.append_nil,List.length_nil]at hl;refine .inl ⟨b,_,_,c,rfl,1,(es.length+1:Nat),c,rfl,by simp[Jz],.inl ⟨rfl,rfl⟩,by omega,by omega,by omega,by omega,?_⟩;rw[show((es.length+1:Nat):Int).toNat-(1:Int).toNat=es.length by simp];rw[show(c:Int).toNat-(1:Int).toNat=c-1 by simp];unfold Gn;by_cases h1:c=1
  ·rw[if_pos (by simp[h1])]
   have he:es=[]:=List.eq_nil_of_length_eq_zero (by omega);subst he;refine hk _ (.inr ⟨b,pre,[e],c-1,cap,rfl,by simpa using hb,by simp at hl⊢;omega,.inr ⟨rfl,by omega⟩⟩) fun x=>by rw[Ey,Ey]
  ·rw[if_neg (by simp;omega)]
   have e1:pre.length*q+(1:Int).toNat*q=(pre++[e]).length*q:=by simp[Nat.add_mul]
   rw[e1];refine hk _ (.inr ⟨b,pre++[e],[],c-1,cap,rfl,by simpa using hb,by simp at hl⊢;omega,.inl ⟨rfl,by simp;omega⟩⟩) fun x=>by rw[Ey,Ey]
theorem LQ.app{eby:Nat}(h:LQ q σ v es)(hq:0<q)(hy:ys≠[])(hb:(es.length+ys.length)*eby≤140737488355328)
  (hk:∀v' σ',LQ q σ' v' (es++ys)→(∀x o,σ x=some o→¬Jd v x→σ' x=some o∧¬Jd v' x)→k v' σ'):F9 q eby ys σ v k:=by
 rcases h with⟨rfl,rfl⟩|⟨b,pre,post,c,cap,rfl,hbr,hl,hc⟩
 ·refine⟨fun e=>absurd e hy,fun _=>⟨by simpa using hb,fun b cap hb0 hle=>?_⟩⟩
  refine hk _ _ (.inr ⟨b,[],[],cap,cap,by simp,by rw[Ab];simp,by simpa using hle,.inl ⟨rfl,rfl⟩⟩) fun x o hx hn=>?_;have hne:x≠b:=fun e=>by subst e;rw[hb0]at hx;cases hx
  exact⟨by rw[Ag hne];exact hx,fun ho=>hne (Ey.1 ho)⟩
 ·rcases hc with⟨rfl,hc⟩|⟨rfl,rfl⟩
  ·rw[List.append_nil]at hbr
   refine .inr (.inr (.inr ⟨hy,pre,es,cap,hbr,rfl,rfl,hc,hb,fun b' pre' cap'' hb0 hle=>?_⟩));refine hk _ _ (.inr ⟨b',pre',[],cap''-pre'.length,cap'',by rw[List.length_append],by rw[Ab];simp,by simp;omega,.inl ⟨rfl,by omega⟩⟩) fun x o hx hn=>?_;have hnb:x≠b:=fun e=>hn (Ey.2 e);have hdel:(σ.del b) x=some o:=by simp[St.del,hnb,hx]
   have hne:x≠b':=fun e=>by subst e;rw[hb0]at hdel;cases hdel
   exact⟨by rw[Ag hne];exact hdel,fun ho=>hne (Ey.1 ho)⟩
  ·refine .inl ⟨rfl,hy,[],?_,by simpa using hb,fun b' cap' hb0 hle=>?_⟩
   ·simp only[src,hbr,List.length_nil]
    rw[if_pos ⟨trivial,Nat.mul_mod_left _ _,by rw[Nat.mul_div_cancel _ hq];simp⟩];simp
   ·refine hk _ _ (.inr ⟨b',[],[],cap',cap',by simp,by rw[Ab];simp,by simpa using hle,.inl ⟨rfl,rfl⟩⟩) fun x o hx hn=>?_
    have hne:x≠b':=fun e=>by subst e;rw[hb0]at hx;cases hx
    exact⟨by rw[Ag hne];exact hx,fun ho=>hne (Ey.1 ho)⟩
end
instance memDec(s:ByteArray)(l:List ByteArray):Decidable (s∈l):=@List.instDecidableMemOfLawfulBEq ByteArray instBEqOfDecidableEq inferInstance s l
def kn(t:Tm)(vs:List ByteArray):Nat:=if t≠.zero∧(t.v=emp∨t.v∈vs)then 1 else 0
def knS(l:List Tm)(vs:List ByteArray):Nat:=(l.map (kn · vs)).sum
def knL(l:Li)(vs:List ByteArray):Nat:=knS (l.by'::l.ar) vs
def ofLi(l:Li)(vs:List ByteArray):List ByteArray:=vs++l.by'.v::l.at'.v::l.ar.map Tm.v
theorem Aq1(t:Tm)(vs:List ByteArray):kn t vs≤1:=by unfold kn;split<;>omega
theorem Akb(vs:List ByteArray):∀l:List Tm,knS l vs≤l.length
 | []=>by simp[knS]
 |t::l=>by
  have:=Akb vs l;have:=Aq1 t vs;simp only[knS,List.map_cons,List.sum_cons,List.length_cons]at*;omega
theorem Akc(vs:List ByteArray){l:List Tm}{i:Nat}(h:i<l.length):knS (l.take (i+1)) vs=knS (l.take i) vs+kn l[i] vs:=by
 unfold knS;rw[List.take_add_one,List.getElem?_eq_getElem h];simp only[List.map_append,List.sum_append,Option.toList,List.map_cons,List.map_nil,List.sum_cons,List.sum_nil,Nat.add_zero]
section
variable{σ:St}{lv:AV}
theorem Aj6{l:List ByteArray}{s:ByteArray}(hl:l.length≤1000000000000)(h:Rd 1 σ lv (stC l)):AT Tryz.prog 96 [lv,str s] σ fun r σ'=>σ'=σ∧((s∈l∧∃i:Nat,r=int i)∨(s∉l∧r=int (-1))):=by
 refine AT.ob Tryz.func96 rfl ?_;simp only[go_sem,Aa,h.len];refine⟨fun m fr σ'=>∃i:Nat,m=l.length-i∧i≤l.length∧σ'=σ∧fr 0=lv∧fr 1=str s∧fr 8=int i∧fr 7=int l.length∧s∉l.take i,⟨_,0,rfl,by omega,rfl,rfl,rfl,rfl,rfl,by simp⟩,?_⟩;rintro m fr σ ⟨i,rfl,h1,rfl,f0,f1,f8,f7,g⟩;simp only[go_sem,f0,f1,f8,f7];refine aIf_by (fun hlt=>?_) (fun hlt=>?_)
 ·have hi:i<l.length:=by omega
  simp only[go_sem,Aa,f0,f1,f8];refine h.elem (by omega) (by rw[Pw];omega) fun p hp=>?_;simp only[go_sem,Aa];refine hp.load1 (by omega) (by rw[Int.toNat_natCast,Kr hi];simp) ?_;simp only[go_sem,Aa,f0,f1,f8,f7,Kr hi];refine aIf_by (fun he=>?_) (fun he=>?_)
  ·simp only[go_sem,Aa]
   exact Ae (r:=int i) rfl ⟨rfl,.inl ⟨he▸List.getElem_mem hi,i,rfl⟩⟩
  ·simp only[go_sem,Aa,f0,f1,f8,f7,As i (by omega)]
   refine⟨l.length-(i+1),by omega,i+1,rfl,by omega,rfl,?_⟩;rw[List.take_add_one,List.getElem?_eq_getElem hi];simp only[Option.toList,List.mem_append,List.mem_singleton,not_or];exact⟨g,fun e=>he e⟩
 ·simp only[go_sem,Aa,f0,f1,f8]
  rw[List.take_of_length_le (by omega)]at g;exact Ae (r:=int (-1)) rfl ⟨rfl,.inr ⟨g,rfl⟩⟩
theorem Acl{l:List ByteArray}{s:ByteArray}(hl:l.length≤1000000000000)(h:Rd 1 σ lv (stC l)):AT Tryz.prog 48 [lv,str s] σ fun r σ'=>r=boo (decide (s∈l))∧σ'=σ:=by
 refine AT.ob Tryz.func48 rfl ?_;simp only[go_sem,Aa];refine(Aj6 hl h).mono ?_;rintro _ σ ⟨rfl,hs⟩;rcases hs with⟨hs,i,rfl⟩|⟨hs,rfl⟩
 ·simp only[go_sem,Aa]
  exact Ae (r:=boo (decide ((0:Int)≤i))) rfl ⟨by rw[decide_eq_true hs,decide_eq_true (by omega)],rfl⟩
 ·simp only[go_sem,Aa]
  exact Ae (r:=boo (decide ((0:Int)≤-1))) rfl ⟨by rw[decide_eq_false hs];rfl,rfl⟩
theorem Al4{K:AV→Prop}{t:Tm}(h:K (boo (!decide (t= .zero)))):Rp Tryz.prog true 88 (.agg t.cs) (.agg Tm.zero.cs) K:=by
 refine Wt (ls:=[.s,.b,.i .i64,.s]) (vs:=[.string t.v,.bool t.b,.int .i64 t.n,.string t.s]) (ws:=[.string emp,.bool false,.int .i64 0,.string emp]) (by kernel_rfl) (by kernel_rfl) (by kernel_rfl) rfl rfl rfl rfl (by simp[Fit,Du.ok]) (by simp[Fit,Du.ok]) ?_;rcases t with⟨v,b,n,s⟩;simpa[eqL,Hs,Tm.zero]using h
end
def Li.Wf(l:Li):Prop:=l.ar.length≤140737488351232∧l.nm.size≤140737488351232
def Rl.Wf(r:Rl):Prop:=r.ar.length≤140737488351232∧r.nm.size≤140737488351232∧r.bo.length≤140737488351232∧∀l∈r.bo,l.Wf
def Rl.Sm(r:Rl)(n:Int):Prop:=r.ar.length≤n∧r.bo.length≤n∧∀l∈r.bo,l.ar.length≤n
def Rl.S3(r:Rl):Prop:=r.bo.length≤300∧∀l∈r.bo,l.ar.length≤300
theorem Rl.Sm.up{r:Rl}{n m:Int}(h:r.Sm n)(hm:n≤m):r.Sm m:=⟨by have:=h.1;omega,by have:=h.2.1;omega,fun l hl=>by have:=h.2.2 l hl;omega⟩
def rlC(l:List Rl):List (List AV):=l.map Rl.cs
@[go_sem] theorem Ci(l:List Rl):(rlC l).length=l.length:=by simp[rlC]
theorem C4{l:List Rl}{i:Nat}(h:i<l.length):(rlC l).getD i []=l[i].cs:=by simp[rlC,List.getD_eq_getElem?_getD,h]
theorem Ou{q:Nat}{σ:St}{es:List (List AV)}{l:List AV}:VWs σ σ (.fsl q es::l) (.sl q es::l):=
 vws_cons (LAt.full.vw_same fun x ⟨n,c,e⟩=>by cases e) (Bu _)
theorem Alm(n:Nat):((n:Int)).tdiv 16=((n/16:Nat):Int):=by
 rw[Int.tdiv_eq_ediv_of_nonneg (by omega)];rfl
theorem Arm{n:Int}{a b:Nat}(h0:0≤n)(h1:n≤1000000)(ha:a≤140737488351232)(hb:b≤140737488351232):IntKind.i64.wrap (n+IntKind.i64.wrap (IntKind.i64.wrap (1+(a:Int))+IntKind.i64.wrap (((b:Int)).tdiv 16)))=n+(1+a+(b/16:Nat)):=by
 rw[Alm,Am (x:=((b/16:Nat):Int)) (by omega),Am (x:=1+(a:Int)) (by omega),Am (x:=1+(a:Int)+((b/16:Nat):Int)) (by omega),Am (by omega)]
def Cn.Wf(c:Cn):Prop:=c.s.size≤140737488351232
def Fa.Wf(f:Fa):Prop:=f.ar.length≤140737488351232∧f.at'.size≤140737488351232∧f.by'.size≤140737488351232∧f.pr.size≤140737488351232∧∀c∈f.ar,c.Wf
theorem As9{n:Int}{a s1 s2 s3:Nat}(h0:0≤n)(h1:n≤1000000)(ha:a≤140737488351232)(b1:s1≤140737488351232)(b2:s2≤140737488351232)(b3:s3≤140737488351232):
  IntKind.i64.wrap (n+IntKind.i64.wrap (IntKind.i64.wrap (1+(a:Int))+IntKind.i64.wrap ((IntKind.i64.wrap (IntKind.i64.wrap ((s1:Int)+s2)+s3)).tdiv 16)))=n+(1+a+((s1+s2+s3)/16:Nat)):=by
 rw[Am (x:=(s1:Int)+s2) (by omega),Am (x:=(s1:Int)+s2+s3) (by omega),show((s1:Int)+s2+s3)=((s1+s2+s3:Nat):Int) by omega,Alm,Am (x:=(((s1+s2+s3)/16:Nat):Int)) (by omega),Am (x:=1+(a:Int)) (by omega),Am (x:=1+(a:Int)+(((s1+s2+s3)/16:Nat):Int)) (by omega),Am (by omega)]
theorem Ata{n:Int}{s:Nat}(h0:0≤n)(h1:n≤1000000)(b:s≤140737488351232):IntKind.i64.wrap (n+IntKind.i64.wrap ((s:Int).tdiv 16))=n+(s/16:Nat):=by
 rw[Alm,Am (x:=((s/16:Nat):Int)) (by omega),Am (by omega)]
section
variable{σ:St}
theorem Acj(l:List Fa)(most:Int)(hl:l.length≤140737488351232)(hw:∀f∈l,f.Wf)(h0:0≤most)(h1:most≤1000000):AT Tryz.prog 38 [.sl 4 (faC l),int most] σ fun v σ'=>(∃w:Int,v=int w∧(w≤most→l.length≤most∧∀f∈l,(f.ar.length:Int)≤most))∧σ'=σ:=by
 refine AT.ob Tryz.func38 rfl ?_;simp only[go_sem,Aa];refine⟨fun m fr σ'=>∃(i:Nat) (n:Int),m=l.length-i∧i≤l.length∧σ'=σ∧0≤n∧n≤10000000000000000∧(most<n∨i≤n∧∀f∈l.take i,(f.ar.length:Int)≤n)∧fr 0= .sl 4 (faC l)∧fr 1=int most∧fr 5=int n∧fr 6=int i,⟨_,0,0,rfl,by omega,rfl,by omega,by omega,.inr ⟨by omega,fun r hr=>by simp at hr⟩,rfl,rfl,rfl,rfl⟩,?_⟩;rintro m fr σ ⟨i,n,rfl,hi,rfl,hn,hm,hs,f0,f1,f5,f6⟩;by_cases g1:(i:Int)<l.length
 ·by_cases g2:n≤most
  ·have hil:i<l.length:=by omega
   have hwi:=hw _ (List.getElem_mem hil);obtain⟨hs0,hs⟩:=hs.resolve_left (by omega);simp only[go_sem,Aa,f0,f1,f5,f6,decide_eq_true g1,decide_eq_true g2];refine Af [.rd 0 false,.rd 1 false,.rd 2 false,.rd 3 false,.rd 4 false,.rd 5 true,.rd 6 false,.rd 7 false,.rd 8 false,.rd 9 false,.rd 10 false,.rd 11 false,.rd 12 true,.rd 13 false,.rd 14 false,.rd 15 false,.rd 16 false,.rd 17 false,.rd 18 true,.rd 19 false,.rd 20 false,.rd 21 false,.rd 22 false,.rd 23 false,.rd 24 false,.rd 25 true,.rd 26 false,.rd 27 false,.rd 28 false,.rd 29 false,.rd 30 false,.rd 31 false] ?_;obtain⟨X,hX⟩:∃X,X=l[i]:=⟨_,rfl⟩;have eg:(faC l).getD i []=X.cs:=by rw[hX];exact Aq hil
   rw[←hX]at hwi;have ew:=As9 hn (show n≤1000000 by omega) hwi.1 hwi.2.1 hwi.2.2.1 hwi.2.2.2.1;simp only[go_sem,Aa,f0,f1,f5,f6,eg,ew];obtain⟨n1,hn1⟩:∃n1:Int,n1=n+(1+X.ar.length+((X.at'.size+X.by'.size+X.pr.size)/16:Nat)):=⟨_,rfl⟩;have hq:=hwi.1;have hq2:=hwi.2.1;have hq3:=hwi.2.2.1;have hq4:=hwi.2.2.2.1;have hs:∀f∈l.take (i+1),(f.ar.length:Int)≤n1:=fun f hf=>by
    rw[List.take_add_one,List.getElem?_eq_getElem hil]at hf;rcases List.mem_append.1 hf with hf|hf
    ·have:=hs f hf;omega
    ·simp at hf;subst hf;rw[←hX];omega
   rw[←hn1];refine⟨by omega,by omega,by omega,by omega,?_⟩;refine⟨fun m fr σ'=>∃(k:Nat) (n':Int),m=X.ar.length-k∧k≤X.ar.length∧σ'=σ∧n1≤n'∧n'≤10000000000000000∧fr 0= .sl 4 (faC l)∧fr 1=int most∧fr 5=int n'∧fr 6=int i∧fr 7=int k,⟨_,0,n1,rfl,by omega,rfl,by omega,by omega,f0,f1,rfl,f6,rfl⟩,?_⟩;clear f0 f1 f5 f6 fr;rintro m fr σ ⟨k,n',rfl,hk,rfl,hn',hm',f0,f1,f5,f6,f7⟩;have nx:∃m',m'<l.length-i∧∃(i':Nat) (n'':Int),m'=l.length-i'∧i'≤l.length∧0≤n''∧n''≤10000000000000000∧(most<n''∨i'≤n''∧∀f∈l.take i',(f.ar.length:Int)≤n'')∧n''=n'∧i'=i+1:=
    ⟨l.length-(i+1),by omega,i+1,n',rfl,by omega,by omega,by omega,.inr ⟨by omega,fun f hf=>by have:=hs f hf;omega⟩,rfl,rfl⟩
   by_cases g3:(k:Int)<X.ar.length
   ·by_cases g4:n'≤most
    ·have hkl:k<X.ar.length:=by omega
     have hwk:=hwi.2.2.2.2 _ (List.getElem_mem hkl);unfold Cn.Wf at hwk;have ew2:=Ata (show 0≤n' by omega) (show n'≤1000000 by omega) hwk;simp only[go_sem,Aa,f0,f1,f5,f6,f7,eg,decide_eq_true g3,decide_eq_true g4,Gd hkl,ew2,As k (by omega)];refine⟨by omega,by omega,by omega,X.ar.length-(k+1),by omega,k+1,_,rfl,by omega,?_,?_,rfl,rfl⟩
     ·omega
     ·omega
    ·simp only[go_sem,Aa,f0,f1,f5,f6,f7,eg,decide_eq_true g3,decide_eq_false g4,As i (by omega)]
     obtain⟨m',h1,i',n'',h2,h3,h4,h5,h6,rfl,rfl⟩:=nx;exact⟨by omega,m',h1,i+1,n'',h2,h3,h4,h5,h6,rfl,rfl⟩
   ·simp only[go_sem,Aa,f0,f1,f5,f6,f7,eg,decide_eq_false g3,As i (by omega)]
    obtain⟨m',h1,i',n'',h2,h3,h4,h5,h6,rfl,rfl⟩:=nx;exact⟨by omega,m',h1,i+1,n'',h2,h3,h4,h5,h6,rfl,rfl⟩
  ·simp only[go_sem,Aa,f0,f1,f5,f6,decide_eq_true g1,decide_eq_false g2]
   exact Ae (r:=int n) rfl ⟨⟨n,rfl,fun h=>by omega⟩,rfl⟩
 ·simp only[go_sem,Aa,f0,f1,f5,f6,decide_eq_false g1]
  refine Ae (r:=int n) rfl ⟨⟨n,rfl,fun h=>?_⟩,rfl⟩;have hs:=hs.resolve_left (by omega);rw[List.take_of_length_le (by omega)]at hs;exact⟨by omega,fun f hf=>by have:=hs.2 f hf;omega⟩
end
theorem Rd.keepO{q:Nat}{σ σ':St}{a:AV}{es:List (List AV)}(h:Rd q σ a es)(hs:∀x o,σ x=some o→Own a x→σ' x=some o):Rd q σ' a es:=h.imp _root_.id fun h=>h.keep hs
theorem Rd.own_rows{q:Nat}{σ:St}{a:AV}{es:List (List AV)}(h:Rd q σ a es){x:Nat}(ho:Own a x):∃cap,σ x=some (.rows q es false cap):=by
 rcases h with rfl|h
 ·exact absurd ho Gy
 ·exact h.own_rows ho
theorem Rd.vw{q:Nat}{σ0 σ:St}{a:AV}{es:List (List AV)}(h:Rd q σ a es)(hf:∀x,Own a x→σ0 x=none):VW σ σ0 a (.sl q es):=by
 rcases h with rfl|h
 ·exact .refl _
 ·exact h.vw_same hf
def FrX(σ0 σ:St)(f:Fa)(e:List AV):Prop:=∃a,e=faX f a∧Rd 3 σ a (cnC f.ar)∧∀x,Own a x→σ0 x=none
theorem FrX.vws{σ0 σ:St}{f:Fa}{e:List AV}(h:FrX σ0 σ f e):VWs σ σ0 e f.cs:=by
 obtain⟨a,rfl,h1,h2⟩:=h;exact vws_same (vws_same (vws_same (vws_cons (h1.vw h2) By)))
def CP(σ0 σ:St)(lv:AV)(es:List (List AV))(b:List Fa):Prop:=(∀x o,σ0 x=some o→σ x=some o)∧LAt 4 σ lv es∧(∀x,Own lv x→σ0 x=none)∧es.length=b.length∧∀j (h:j<b.length),FrX σ0 σ b[j] (es.getD j [])
theorem Zc{α γ:Type}{e:α→α→Bool}{f:α→γ}{e':γ→γ→Bool}(he:∀x y,e x y=true↔f x=f y)(he':∀x y,e' x y=true↔x=y)(l:List α):(Gm e l).map f=M2 e' (l.map f):=by
 have key:∀(l:List α) (p:α),M2 e' (f p::l.map f)=f p::(Jp e p l).map f:=by
  intro l
  induction l with
  |nil=>intro p;simp[M2,Jp]
  |cons y l ih=>
   intro p;rw[List.map_cons,M2,Jq];by_cases h:f y=f p
   ·rw[if_pos ((he' _ _).2 h),if_pos ((he _ _).2 h),←h,ih y]
   ·rw[if_neg fun h'=>h ((he' _ _).1 h'),if_neg fun h'=>h ((he _ _).1 h'),ih y]
    rfl
 cases l with
 |nil=>simp[Gm,M2]
 |cons x l=>rw[List.map_cons,key];rfl
end Go.Proofs.YtmifmncabejffaaGreat
theorem Go.Proofs.YtmifmncabejffaaGreat.rqq19{p:Prop}(h:p:=by
 refine AT.ob Amn rfl ?_;have e4:∀x,(en x).take Hu=en x:=fun x=>List.take_of_length_le (by rw[hl];omega);have e5:∀x y,en x++List.drop Hu (en y)=en x:=fun x y=>by rw[List.drop_eq_nil_of_le (by rw[hl];omega),List.append_nil]
 have eg:∀j (hj:j<l.length),(l.map en).getD j []=en l[j]:=fun j hj=>by simp[List.getD_eq_getElem?_getD,hj]
 have same:∀{fr:Fr} {m:Nat},m=l.length→Gm e l=l→A9 Tryz.prog fr σ (Ad2).results.toList=some (slv b l.length cap)→Dw Tryz.prog (fun r σ'=>r=slv b (Gm e l).length cap∧σ'=σ.set b (.rows Hu ((Gm e l).map en) false cap)) (Ad2).results.toList fr σ:=fun _ he hr=>
  Ae hr ⟨by rw[he],by rw[he];exact(B8 hb).symm⟩
 simp only[go_sem];refine aIf_by (fun h2=>?_) (fun h2=>?_)
 ·simp only[go_sem]
  exact same rfl (Ab1 (by omega)) rfl
 ·simp only[go_sem,Aa]
  refine⟨fun m fr σ'=>∃(k:Nat) (hk:0<k) (hkn:k≤l.length),m=l.length-k∧σ'=σ∧Gm e l=l.take k++Jp e (l[k-1]'(by omega)) (l.drop k)∧fr 0=slv b l.length cap∧fr 1=fnv g∧fr 5=int k,⟨_,1,by omega,by omega,rfl,rfl,Ab2 (by omega),rfl,rfl,rfl⟩,?_⟩;rintro m fr σ ⟨k,hk,hkn,rfl,rfl,hI,f0,f1,f5⟩;simp only[go_sem,f0,f5];refine aIf_by (fun hlt=>?_) (fun hlt=>?_)
  ·have hkl:k<l.length:=by omega
   have w1:IntKind.i64.wrap ((k:Int)-1)=((k-1:Nat):Int):=by rw[Am (by omega)];omega
   have q1:=eg k hkl;have q2:=eg (k-1) (by omega);have ed:l.drop k=l[k]::l.drop (k+1):=List.drop_eq_getElem_cons hkl;rw[ed]at hI;simp only[go_sem,Aa];refine Af [.rd 0 false,.rd 1 false,.rd 2 false,.rd 3 false,.rd 4 true,.rd 5 false,.rd 6 false,.rd 7 false,.rd 8 false,.rd 9 true,.ef 10 []] ?_;simp only[go_sem,Aa,f0,f1,f5,w1,hb,q1,q2,e4,hl,List.length_map];refine⟨by omega,by omega,by omega,by omega,(hC _ hs _ _).p ?_⟩;simp only[go_sem,Aa];refine aIf_bool (fun h0=>?_) (fun h0=>?_)
   ·have hI:Gm e l=l.take k++Jp e l[k] (l.drop (k+1)):=by rw[hI,Jq,if_pos h0]
    simp only[go_sem,Aa,f0,f5];refine B2 (p:=k*Hu) rfl (by omega) hcap (by omega) ?_;simp only[go_sem,Aa]
    refine⟨fun m fr σ'=>∃(w j:Nat) (es:List (List AV)) (hj:k<j) (hjn:j≤l.length) (res:List α),m=l.length-j∧w<j∧es.length=l.length∧(∀i,i<l.length→(es.getD i []).length=Hu)∧σ'=σ.set b (.rows Hu es false cap)∧res.length=w∧es.take w=res.map en∧es.drop (j-1)=(l.drop (j-1)).map en∧Gm e l=res++Jp e (l[j-1]'(by omega)) (l.drop j)∧fr 0=slv b l.length cap∧fr 1=fnv g∧fr 5=int w∧fr 6= .v (.slice (some ⟨b,k*Hu,none⟩) (l.length-k) (cap-k))∧fr 7=int (j-k:Nat),
     ⟨_,k,k+1,l.map en,by omega,by omega,l.take k,rfl,by omega,by simp,(fun i hi=>by rw[eg i hi,hl]),(B8 hb).symm,by simp;omega,by simp[List.map_take],by simp[List.map_drop],hI,f0,f1,f5,(by first|rfl|(rw[Nat.mul_one];rfl)),by rw[show k+1-k=1 by omega];rfl⟩,?_⟩
    clear hI f0 f1 f5 h0 hlt w1 q1 q2 ed fr;rintro m fr σ' ⟨w,j,es,hj,hjn,res,rfl,hwj,hes,he1,rfl,hres,ht,hd,hI,f0,f1,f5,f6,f7⟩;have hge:∀i,j-1≤i→∀hi:i<l.length,es.getD i []=en l[i]:=fun i h1 h2=>by
     have:=congrArg (fun x=>x.getD (i-(j-1)) []) hd;simp only[List.getD_eq_getElem?_getD,List.getElem?_drop,List.getElem?_map]at this;rw[show j-1+(i-(j-1))=i by omega]at this;simpa[List.getD_eq_getElem?_getD,h2]using this
    simp only[go_sem,f6,f7];refine aIf_by (fun hlt=>?_) (fun hlt=>?_)
    ·have hjl:j<l.length:=by omega
     have w2:IntKind.i64.wrap (((j-k:Nat):Int)-1)=((j-k-1:Nat):Int):=by rw[Am (by omega)];omega
     have p1:=hge j (by omega) hjl;have p2:=hge (j-1) (by omega) (by omega);have ed:l.drop j=l[j]::l.drop (j+1):=List.drop_eq_getElem_cons hjl;have a1:k+(j-k)=j:=by omega
     have a2:k+(j-k-1)=j-1:=by omega
     rw[ed]at hI;simp only[go_sem,Aa];refine Af [.rd 0 false,.rd 1 false,.rd 2 false,.rd 3 false,.rd 4 true,.rd 5 false,.rd 6 false,.rd 7 false,.rd 8 false,.rd 9 true,.ef 10 [],.rd 11 false] ?_;simp only[go_sem,Aa,f1,f6,f7,w2];refine Ox (l:=k) (by first|rfl|omega) (by decide) (by omega) (by omega) ?_;simp only[go_sem,Aa,a1,Ab,p1,e4,hl,hes,f6,f7,w2];refine⟨by omega,Ox (l:=k) (by first|rfl|omega) (by decide) (by omega) (by omega) ?_⟩;simp only[go_sem,Aa,a2,Ab,p2,e4,hl,hes,f1];refine⟨by omega,(hC _ (A0 hn hs) _ _).p ?_⟩;simp only[go_sem,Aa];refine aIf_bool (fun h0=>?_) (fun h0=>?_)
     ·have hI:Gm e l=res++Jp e l[j] (l.drop (j+1)):=by rw[hI,Jq,if_pos h0]
      have n1:IntKind.i64.wrap (((j-k:Nat):Int)+1)=((j+1-k:Nat):Int):=by rw[Am (by omega)];omega
      simp only[go_sem,Aa,f0,f1,f5,f6,f7,n1];refine⟨l.length-(j+1),by omega,w,j+1,es,by omega,by omega,res,rfl,by omega,hes,he1,rfl,hres,ht,?_,hI,rfl,rfl⟩;rw[Nat.add_sub_cancel,show j=j-1+1 by omega,←List.drop_drop,hd,←List.map_drop,List.drop_drop]
     ·have hI:Gm e l=(res++[l[j]])++Jp e l[j] (l.drop (j+1)):=by rw[hI,Jq,if_neg (by rw[h0];decide),List.append_assoc];rfl
      have n1:IntKind.i64.wrap (((j-k:Nat):Int)+1)=((j+1-k:Nat):Int):=by rw[Am (by omega)];omega
      have dz:List.drop Hu (es.getD w [])=[]:=List.drop_eq_nil_of_le (by rw[he1 w (by omega)];omega);simp only[go_sem,Aa,f0,f1,f5,f6,f7,n1];refine Ox (l:=k) (by first|rfl|omega) (by decide) (by omega) (by omega) ?_;simp only[go_sem,Aa,a1,Ab,p1,e4,hl,hes,f0,f1,f5,f6,f7,n1,dz,List.append_nil,hce,ho,Ct,As w (by omega)];refine⟨by omega,by omega,by omega,l.length-(j+1),by omega,w+1,j+1,es.set w (en l[j]),by omega,by omega,res++[l[j]],rfl,by omega,by simp;omega,fun i hi=>?_,rfl,by simp;omega,?_,?_,hI,rfl,rfl⟩
      ·simp only[List.getD_eq_getElem?_getD,List.getElem?_set]
       split
       ·rw[if_pos (by omega)];exact hl _
       ·have:=he1 i hi
        rwa[List.getD_eq_getElem?_getD]at this
      ·rw[List.take_add_one,List.take_set_of_le (by omega),ht]
       simp[show w<es.length by omega]
      ·rw[Nat.add_sub_cancel,List.drop_set_of_lt (by omega),show j=j-1+1 by omega,←List.drop_drop,hd,←List.map_drop,List.drop_drop]
    ·rw[List.drop_of_length_le (by omega)]at hI
     have hI:Gm e l=res:=by rw[hI];simp[Jp]
     simp only[go_sem,Aa,f0,f5];refine B2 (p:=w*Hu) rfl (by omega) hcap (by omega) ?_;simp only[go_sem,Aa];refine Mc (l:=w) (by first|rfl|omega) Ab (by decide) (by omega) (by omega) (by decide) ?_;simp only[go_sem,Aa,Ct,f0,f5];refine Pv (by omega) hcap ?_;simp only[go_sem,Aa];have hw:(Gm e l).length=w:=by rw[hI];exact hres
     refine Ad (r:=slv b w cap) rfl _ _ (Mu (m:=w) _ Ab) ⟨by rw[hw],?_⟩;rw[Ct,List.append_assoc,List.take_append_of_le_length (by simp;omega),List.take_take,Nat.min_self,ht,hI]
   ·have hI:Gm e l=l.take (k+1)++Jp e l[k] (l.drop (k+1)):=by
     have e1:l.take (k+1)=l.take k++[l[k]]:=by rw[List.take_add_one,List.getElem?_eq_getElem hkl];rfl
     rw[hI,e1,Jq,if_neg (by rw[h0];decide),List.append_assoc];rfl
    simp only[go_sem,Aa,f0,f1,f5,As k (by omega)];exact⟨l.length-(k+1),by omega,k+1,by omega,by omega,rfl,hI,rfl⟩
  ·simp only[go_sem,Aa,f0]
   refine same rfl ?_ rfl;rw[hI,List.drop_of_length_le (by omega),List.take_of_length_le (by omega)];simp[Jp]):p:=h
namespace Go.Proofs.YtmifmncabejffaaGreat.F
open Go Go.Av Go.Sort
section
variable{α:Type}{en:α→List AV}(hl:∀x,(en x).length=4)(ho:∀x,(en x).all AV.one=true){e:α→α→Bool}{g:Nat}{β:St}(hC:∀σ',(∀x o,β x=some o→σ' x=some o)→∀x y,AT Tryz.prog g [.agg (en x),.agg (en y)] σ' fun r σ''=>r=boo (e x y)∧σ''=σ')
variable{b cap:Nat}(hn:β b=none)
include hl ho hC hn
abbrev Amn:=Tryz.func114
abbrev Hu:Nat:=4
noncomputable abbrev Ad2:=Tryz.f114
theorem compact_at{σ:St}{l:List α}(hb:σ b=some (.rows 4 (l.map en) false cap))(hs:∀x o,β x=some o→σ x=some o)(hcap:l.length≤cap)(hsz:l.length≤1000000000000):AT Tryz.prog 114 [slv b l.length cap,fnv g] σ fun r σ'=>r=slv b (Gm e l).length cap∧σ'=σ.set b (.rows 4 ((Gm e l).map en) false cap):=by
 have hce:=Nat.add_zero;have zh1:Hu=4:=rfl;exact rqq19
end
end Go.Proofs.YtmifmncabejffaaGreat.F
theorem Go.Proofs.YtmifmncabejffaaGreat.rqq1{p:Prop}(h:p:=by
 refine AT.ob Aro rfl ?_;have sub:∀d',∀x o,β x=some o→(σ.set b (.rows Ro (rw' en d') false cap)) x=some o:=fun d' x o hx=>by
  have:x≠b:=fun e=>by subst e;rw[hn]at hx;cases hx
  rw[Ag this];exact hs x o hx
 have e4:∀x,(en x).take Ro=en x:=fun x=>List.take_of_length_le (by rw[hl];omega);have e5:∀x y,en x++List.drop Ro (en y)=en x:=fun x y=>by rw[List.drop_eq_nil_of_le (by rw[hl];omega),List.append_nil]
 simp only[go_sem,Aa,As a (by omega)];refine⟨fun m fr σ'=>∃(i:Nat) (d':Array α),m=e-i∧a<i∧d'.size=n∧insOuter (ltc cf) a e i d'=insertionSort (ltc cf) d a e∧σ'=σ.set b (.rows Ro (rw' en d') false cap)∧fr 0=slv b n cap∧fr 1=int a∧fr 2=int e∧fr 3=fnv g∧fr 8=int i,⟨_,a+1,d,rfl,by omega,hd,rfl,(B8 hb).symm,rfl,rfl,rfl,rfl,rfl⟩,?_⟩;rintro m fr σ' ⟨i,d',rfl,hi,hd',hI,rfl,f0,f1,f2,f3,f8⟩;simp only[go_sem,f2,f8];refine aIf_by (fun hlt=>?_) (fun hlt=>?_)
 ·simp only[go_sem,Aa,f8]
  unfold insOuter at hI;rw[if_pos (by omega)]at hI;refine⟨fun m fr σ'=>∃(j:Nat) (d'':Array α),m=j+1∧j≤i∧d''.size=n∧insInner (ltc cf) a j d''=insInner (ltc cf) a i d'∧σ'=σ.set b (.rows Ro (rw' en d'') false cap)∧fr 0=slv b n cap∧fr 1=int a∧fr 2=int e∧fr 3=fnv g∧fr 8=int i∧fr 9=int j,⟨_,i,d',rfl,by omega,hd',rfl,rfl,f0,f1,f2,f3,f8,rfl⟩,?_⟩;clear f0 f1 f2 f3 f8 fr;rintro m fr σ' ⟨j,dd,rfl,hj,hdd,hJ,rfl,f0,f1,f2,f3,f8,f9⟩;have out:insInner (ltc cf) a j dd=dd→insOuter (ltc cf) a e (i+1) dd=insertionSort (ltc cf) d a e:=fun h=>by rw[←hI,←hJ,h]
  simp only[go_sem];refine Af [.rd 0 false,.rd 1 false,.rd 2 false,.rd 3 false,.rd 4 false,.rd 5 false,.rd 6 false,.rd 7 false,.rd 8 true,.rd 9 false,.rd 10 false,.rd 11 false,.rd 12 false,.rd 13 true,.ef 14 [],.rd 15 false,.rd 16 false] ?_;by_cases g1:(a:Int)<j
  ·obtain⟨k,rfl⟩:∃k,j=k+1:=⟨j-1,by omega⟩
   have ek:IntKind.i64.wrap (((k+1:Nat):Int)-1)=(k:Int):=by rw[Am (by omega)];omega
   have q1:=Ax (en:=en) (d:=dd) (j:=k+1) (by omega);have q2:=Ax (en:=en) (d:=dd) (j:=k) (by omega);simp only[go_sem,f0,f1,f3,f9,decide_eq_true g1,ek,Ab,q1,q2,e4];refine⟨by omega,by omega,by omega,by omega,(hC _ (sub dd) _ _).p ?_⟩;have hu:insInner (ltc cf) a (k+1) dd=if ltc cf dd[k+1]! dd[k]! =true then insInner (ltc cf) a k (swp dd (k+1) k)else dd:=by
    rw[insInner];simp only[gt_iff_lt,show a<k+1 by omega,decide_true,Bool.true_and]
   simp only[go_sem];refine aIf_by (fun g2=>?_) (fun g2=>?_)
   ·rw[if_pos (by unfold ltc;exact decide_eq_true g2)]at hu
    simp only[go_sem,Aa];refine Af [.rd 0 false,.rd 1 false,.rd 2 false,.rd 3 false,.rd 4 false,.rd 5 false,.rd 6 false,.rd 7 false,.rd 8 false,.rd 9 true,.rd 10 false,.rd 11 false,.rd 12 false,.rd 13 true,.rd 14 false,.ef 15 [],.rd 16 false,.ef 17 []] ?_;have q3:=Ax (en:=en) (d:=dd.setIfInBounds (k+1) dd[k]!) (j:=k) (by rw[Array.size_setIfInBounds];omega);simp only[go_sem,f0,f1,f3,f9,ek,Ab,q1,q2,e4,e5,hl,ho,hce,Fl,q3,Array.size_setIfInBounds];refine⟨by omega,by omega,by omega,by omega,by omega,by omega,by omega,by omega,k+1,by omega,k,swp dd (k+1) k,rfl,by omega,by rw[C3];exact hdd,by rw[←hu,hJ],rfl,f2,f8,rfl⟩
   ·rw[if_neg (by unfold ltc;rw[decide_eq_false g2];decide)]at hu
    have out:=out hu;simp only[go_sem,f0,f1,f2,f3,f8,As i (by omega)];exact⟨e-(i+1),by omega,i+1,dd,rfl,by omega,hdd,out,rfl,rfl⟩
  ·have out:=out (by
    cases j with
    |zero=>rfl
    |succ k=>rw[insInner];simp only[gt_iff_lt,show¬a<k+1 by omega,decide_false,Bool.false_and,Bool.false_eq_true,if_false])
   simp only[go_sem,f0,f1,f2,f3,f8,f9,decide_eq_false g1,As i (by omega)];exact⟨e-(i+1),by omega,i+1,dd,rfl,by omega,hdd,out,rfl,rfl⟩
 ·simp only[go_sem,Aa]
  unfold insOuter at hI;rw[if_neg (by omega)]at hI;rw[hI];exact Ae (r:=.tup []) rfl rfl):p:=h
namespace Go.Proofs.YtmifmncabejffaaGreat.F
open Go Go.Av Go.Sort
section
variable{α:Type}[Inhabited α]{en:α→List AV}(hl:∀x,(en x).length=4)(ho:∀x,(en x).all AV.one=true)(hce:∀n:Nat,n+0=n){cf:α→α→Int}{g:Nat}{β:St}(hC:∀σ',(∀x o,β x=some o→σ' x=some o)→∀x y,AT Tryz.prog g [.agg (en x),.agg (en y)] σ' fun r σ''=>r=int (cf x y)∧σ''=σ')
variable{σ:St}{b cap:Nat}{d:Array α}(hb:σ b=some (.rows 4 (rw' en d) false cap))(hn:β b=none)(hs:∀x o,β x=some o→σ x=some o){n:Nat}(hd:d.size=n)(hsz:n≤1000000000000)
include hl ho hce hC hb hn hs hd hsz
abbrev Aro:=Tryz.func214
abbrev Ro:Nat:=4
theorem Ih{a e:Nat}(he:e≤n)(ha:a≤n):AT Tryz.prog 214 [slv b n cap,int a,int e,fnv g] σ fun _ σ'=>σ'=σ.set b (.rows 4 (rw' en (insertionSort (ltc cf) d a e)) false cap):=by
 have zh1:Ro=4:=rfl;exact rqq1
end
end Go.Proofs.YtmifmncabejffaaGreat.F
theorem Go.Proofs.YtmifmncabejffaaGreat.rqq2{p:Prop}(h:p:=by
 refine AT.ob Arp rfl ?_;simp only[go_sem,Aa];refine⟨fun m fr σ'=>∃(r:Nat) (d':Array α),m=n-r∧r≤n∧d'.size=n∧siftDown (ltc cf) hi f r d'=siftDown (ltc cf) hi f lo d∧σ'=σ.set b (.rows Abu (rw' en d') false cap)∧fr 0=slv b n cap∧fr 2=int hi∧fr 3=int f∧fr 4=fnv g∧fr 10=int r,⟨_,lo,d,rfl,hlo,hd,rfl,(B8 hb).symm,rfl,rfl,rfl,rfl,rfl⟩,?_⟩;rintro m fr σ' ⟨r,dd,rfl,hr,hdd,hI,rfl,f0,f2,f3,f4,f10⟩;have w1:IntKind.i64.wrap (IntKind.i64.wrap (2*(r:Int))+1)=((2*r+1:Nat):Int):=by rw[Am (x:=2*(r:Int)) (by omega),Am (by omega)];omega
 simp only[go_sem,Aa,f0,f2,f3,f4,f10,w1];refine aIf_by (fun hge=>?_) (fun hge=>?_)
 ·simp only[go_sem,Aa]
  rw[←hI,J6 (by omega)];exact Ae (r:=.tup []) rfl rfl
 ·have hlt:2*r+1<hi:=by omega
  rw[Q6 hlt]at hI;have hch:=Aby (lt:=ltc cf) (f:=f) (d:=dd) hlt;simp only[go_sem];refine Af [.rd 0 false,.rd 1 false,.rd 2 false,.rd 3 false,.rd 4 false,.rd 5 false,.rd 6 false,.rd 7 false,.rd 8 false,.rd 9 false,.rd 10 false,.rd 11 true,.rd 12 false,.rd 13 false,.rd 14 false,.rd 15 false,.rd 16 false,.rd 17 false,.rd 18 true,.ef 19 [],.rd 20 false,.rd 21 false] ?_;apply Mk (fun fr σ'=>σ'=σ.set b (.rows Abu (rw' en dd) false cap)∧fr 0=slv b n cap∧fr 2=int hi∧fr 3=int f∧fr 4=fnv g∧fr 10=int r∧fr 11=int (chd (ltc cf) hi f r dd))
  case h1=>
   intro key;have w2:IntKind.i64.wrap (((2*r+1:Nat):Int)+1)=((2*r+2:Nat):Int):=by rw[Am (by omega)];omega
   by_cases g1:((2*r+2:Nat):Int)<hi
   ·have w3:IntKind.i64.wrap ((f:Int)+((2*r+1:Nat):Int))=((f+(2*r+1):Nat):Int):=by rw[Am (by omega)];omega
    have w4:IntKind.i64.wrap (((f+(2*r+1):Nat):Int)+1)=((f+(2*r+2):Nat):Int):=by rw[Am (by omega)];omega
    have q1:=Ax (en:=en) (d:=dd) (j:=f+(2*r+1)) (by omega);have q2:=Ax (en:=en) (d:=dd) (j:=f+(2*r+2)) (by omega);simp only[go_sem,f0,f2,f3,f4,f10,w2,w3,w4,decide_eq_true g1,Ab,q1,q2,Bt hl];refine⟨by omega,by omega,by omega,by omega,(hC _ (A0 hn hs) _ _).mono ?_⟩;rintro _ σ1 ⟨rfl,rfl⟩;simp only[go_sem];refine aIf_by (fun g2=>?_) (fun g2=>?_)
    ·simp only[go_sem,w2]
     refine key _ _ ⟨rfl,f0,f2,f3,f4,f10,?_⟩;unfold chd;rw[if_pos ⟨by omega,decide_eq_true g2⟩];rfl
    ·simp only[go_sem,w2]
     refine key _ _ ⟨rfl,f0,f2,f3,f4,f10,?_⟩;unfold chd;rw[if_neg (fun h=>g2 (of_decide_eq_true h.2))];rfl
   ·simp only[go_sem,f0,f2,f3,f4,f10,w2,decide_eq_false g1]
    refine key _ _ ⟨rfl,f0,f2,f3,f4,f10,?_⟩;unfold chd;rw[if_neg (fun h=>g1 (by omega))];rfl
  case h2=>
   clear f0 f2 f3 f4 f10 fr;generalize chd (ltc cf) hi f r dd=c at*;rintro fr σ1 ⟨rfl,f0,f2,f3,f4,f10,f11⟩;have w5:IntKind.i64.wrap ((f:Int)+(r:Int))=((f+r:Nat):Int):=by rw[Am (by omega)];omega
   have w6:IntKind.i64.wrap ((f:Int)+(c:Int))=((f+c:Nat):Int):=by rw[Am (by omega)];omega
   have q1:=Ax (en:=en) (d:=dd) (j:=f+r) (by omega);have q2:=Ax (en:=en) (d:=dd) (j:=f+c) (by omega);refine Af [.rd 0 false,.rd 1 false,.rd 2 false,.rd 3 false,.rd 4 false,.rd 5 false,.rd 6 true,.rd 7 false,.rd 8 false,.rd 9 false,.rd 10 false,.rd 11 false,.rd 12 true,.ef 13 [],.rd 14 false,.rd 15 false] ?_;simp only[go_sem,f0,f2,f3,f4,f10,f11,w5,w6,Ab,q1,q2,Bt hl];refine⟨by omega,by omega,by omega,by omega,(hC _ (A0 hn hs) _ _).p ?_⟩;simp only[go_sem];refine aIf_by (fun g2=>?_) (fun g2=>?_)
   ·rw[if_pos (by unfold ltc;exact decide_eq_true g2)]at hI
    simp only[go_sem];refine Af [.rd 0 false,.rd 1 false,.rd 2 false,.rd 3 false,.rd 4 false,.rd 5 false,.rd 6 false,.rd 7 false,.rd 8 false,.rd 9 false,.rd 10 false,.rd 11 false,.rd 12 false,.rd 13 true,.rd 14 false,.rd 15 false,.rd 16 false,.rd 17 false,.rd 18 false,.rd 19 true,.rd 20 false,.ef 21 [],.rd 22 false,.ef 23 []] ?_;have q3:=Ax (en:=en) (d:=dd.setIfInBounds (f+r) dd[f+c]!) (j:=f+c) (by rw[Array.size_setIfInBounds];omega);simp only[go_sem,f0,f2,f3,f4,f10,f11,w5,w6,Ab,q1,q2,Bt hl,Ge hl,hl,ho,hce,Fl,q3,Array.size_setIfInBounds];refine⟨by omega,by omega,by omega,by omega,by omega,by omega,by omega,by omega,n-c,by omega,c,swp dd (f+r) (f+c),rfl,by omega,by rw[C3];exact hdd,hI,rfl,rfl⟩
   ·rw[if_neg (by unfold ltc;rw[decide_eq_false g2];decide)]at hI
    simp only[go_sem];rw[←hI];exact Ae (r:=.tup []) rfl rfl):p:=h
theorem Go.Proofs.YtmifmncabejffaaGreat.rqq3{p:Prop}(h:p:=by
 refine AT.ob Arq rfl ?_;have w1:IntKind.i64.wrap ((e:Int)-a)=((e-a:Nat):Int):=by rw[Am (by omega)];omega
 have w2:IntKind.i64.wrap ((IntKind.i64.wrap (((e-a:Nat):Int)-1)).tdiv 2)=((((e-a-1)/2+1:Nat):Int)-1):=by
  rw[Am (x:=((e-a:Nat):Int)-1) (by omega),Int.tdiv_eq_ediv_of_nonneg (by omega),Am (by omega)];omega
 simp only[go_sem,Aa,w1,w2];refine⟨fun m fr σ'=>∃(k:Nat) (d':Array α),m=k+1∧k≤n∧d'.size=n∧heapBuild (ltc cf) (e-a) a k d'=heapBuild (ltc cf) (e-a) a ((e-a-1)/2+1) d∧σ'=σ.set b (.rows Uy (rw' en d') false cap)∧fr 0=slv b n cap∧fr 3=fnv g∧fr 8=int a∧fr 9=int 0∧fr 10=int (e-a:Nat)∧fr 11=int ((k:Int)-1),⟨_,_,d,rfl,by omega,hd,rfl,(B8 hb).symm,rfl,rfl,rfl,rfl,rfl,rfl⟩,?_⟩;rintro m fr σ' ⟨k,dd,rfl,hk,hdd,hI,rfl,f0,f3,f8,f9,f10,f11⟩;simp only[go_sem,f11];refine aIf_by (fun hge=>?_) (fun hge=>?_)
 ·obtain⟨j,rfl⟩:∃j,k=j+1:=⟨k-1,by omega⟩
  have ej:((j+1:Nat):Int)-1=(j:Int):=by omega
  simp only[go_sem,Aa,f0,f3,f8,f10,f11,ej];refine(Ya hl ho hce hC (σ:=σ.set b (.rows Uy (rw' en dd) false cap)) (d:=dd) Ab hn (A0 hn hs) hdd hsz (by omega) (by omega)).mono ?_;rintro _ σ1 rfl;have w3:IntKind.i64.wrap ((j:Int)-1)=(j:Int)-1:=Am (by omega);simp only[go_sem,f0,f3,f8,f9,f10,f11,ej,w3,hdd];exact⟨j+1,by omega,j,siftDown (ltc cf) (e-a) a j dd,rfl,by omega,by rw[J5 _ _ _ (Nat.le_refl _)];exact hdd,hI,rfl,rfl⟩
 ·have hk0:k=0:=by omega
  subst hk0;have w4:IntKind.i64.wrap (((e-a:Nat):Int)-1)=((e-a:Nat):Int)-1:=Am (by omega);simp only[go_sem,Aa,f0,f3,f8,f9,f10,f11,w4];have hI:dd=heapBuild (ltc cf) (e-a) a ((e-a-1)/2+1) d:=hI;have hfin:heapSort (ltc cf) d a e=heapPop (ltc cf) a (e-a) dd:=by rw[hI];rfl
  refine⟨fun m fr σ'=>∃(k:Nat) (d':Array α),m=k+1∧k≤e-a∧d'.size=n∧heapPop (ltc cf) a k d'=heapPop (ltc cf) a (e-a) dd∧σ'=σ.set b (.rows Uy (rw' en d') false cap)∧fr 0=slv b n cap∧fr 3=fnv g∧fr 8=int a∧fr 9=int 0∧fr 12=int ((k:Int)-1),⟨_,_,dd,rfl,by omega,hdd,rfl,rfl,f0,f3,f8,f9,rfl⟩,?_⟩;clear f0 f3 f8 f9 f10 f11 fr hI;rintro m fr σ' ⟨k,de,rfl,hk,hde,hI,rfl,f0,f3,f8,f9,f12⟩;simp only[go_sem,f12];refine aIf_by (fun hge=>?_) (fun hge=>?_)
  ·obtain⟨j,rfl⟩:∃j,k=j+1:=⟨k-1,by omega⟩
   have ej:((j+1:Nat):Int)-1=(j:Int):=by omega
   have w5:IntKind.i64.wrap ((a:Int)+(j:Int))=((a+j:Nat):Int):=by rw[Am (by omega)];omega
   have q1:=Ax (en:=en) (d:=de) (j:=a) (by omega);have q2:=Ax (en:=en) (d:=de) (j:=a+j) (by omega);have q3:=Ax (en:=en) (d:=de.setIfInBounds a de[a+j]!) (j:=a+j) (by rw[Array.size_setIfInBounds];omega);simp only[go_sem,Aa,f0,f3,f8,f9,f12,ej];refine Af [.rd 0 false,.rd 1 false,.rd 2 false,.rd 3 false,.rd 4 false,.rd 5 false,.rd 6 false,.rd 7 false,.rd 8 false,.rd 9 false,.rd 10 false,.rd 11 true,.rd 12 false,.rd 13 false,.rd 14 false,.rd 15 true,.rd 16 false,.ef 17 [],.rd 18 false,.ef 19 []] ?_;simp only[go_sem,f0,f3,f8,f9,f12,ej,w5,Ab,q1,q2,Bt hl,Ge hl,hl,ho,hce,Fl,q3,Array.size_setIfInBounds];refine⟨by omega,by omega,by omega,by omega,by omega,by omega,by omega,by omega,?_⟩;have hsw:(swp de a (a+j)).size=n:=by rw[C3];exact hde
   refine(Ya hl ho hce hC (lo:=0) (hi:=j) (f:=a) (σ:=σ.set b (.rows Uy (rw' en (swp de a (a+j))) false cap)) (d:=swp de a (a+j)) Ab hn (A0 hn hs) hsw hsz (by omega) (by omega)).mono ?_;rintro _ σ1 rfl;have w3:IntKind.i64.wrap ((j:Int)-1)=(j:Int)-1:=Am (by omega);simp only[go_sem,f0,f3,f8,f9,f12,ej,w3];exact⟨j+1,by omega,j,siftDown (ltc cf) j a 0 (swp de a (a+j)),rfl,by omega,by rw[J5 _ _ _ (Nat.le_refl _)];exact hsw,hI,rfl,rfl⟩
  ·have hk0:k=0:=by omega
   subst hk0;simp only[go_sem];rw[hfin,←hI];exact Ae (r:=.tup []) rfl rfl):p:=h
theorem Go.Proofs.YtmifmncabejffaaGreat.rqq4{p:Prop}(h:p:=by
 refine AT.ob Arr rfl ?_;have w1:IntKind.i64.wrap ((e:Int)-1)=((e-1:Nat):Int):=by rw[Am (by omega)];omega
 simp only[go_sem,Aa,w1];refine⟨fun m fr σ'=>∃(i j:Nat) (d':Array α),m=j-i∧j<n∧i≤n∧d'.size=n∧reverseLoop i j d'=reverseRange d a e∧σ'=σ.set b (.rows Agi (rw' en d') false cap)∧fr 0=slv b n cap∧fr 8=int i∧fr 9=int j,⟨_,a,e-1,d,rfl,by omega,by omega,hd,rfl,(B8 hb).symm,rfl,rfl,rfl⟩,?_⟩;rintro m fr σ' ⟨i,j,dd,rfl,hj,hi,hdd,hI,rfl,f0,f8,f9⟩;rw[Alp]at hI;simp only[go_sem,f8,f9];refine aIf_by (fun hlt=>?_) (fun hlt=>?_)
 ·have w2:IntKind.i64.wrap ((j:Int)-1)=((j-1:Nat):Int):=by rw[Am (by omega)];omega
  have q1:=Ax (en:=en) (d:=dd) (j:=i) (by omega);have q2:=Ax (en:=en) (d:=dd) (j:=j) (by omega);have q3:=Ax (en:=en) (d:=dd.setIfInBounds i dd[j]!) (j:=j) (by rw[Array.size_setIfInBounds];omega);rw[if_pos (by omega)]at hI;simp only[go_sem,Aa];refine Af [.rd 0 false,.rd 1 false,.rd 2 false,.rd 3 false,.rd 4 false,.rd 5 false,.rd 6 false,.rd 7 true,.rd 8 false,.rd 9 false,.rd 10 false,.rd 11 true,.rd 12 false,.ef 13 [],.rd 14 false,.ef 15 []] ?_;simp only[go_sem,f0,f8,f9,Ab,q1,q2,Bt hl,Ge hl,hl,ho,hce,Fl,q3,Array.size_setIfInBounds,w2,As i (by omega)];refine⟨by omega,by omega,by omega,by omega,by omega,by omega,by omega,by omega,j-1-(i+1),by omega,i+1,j-1,swp dd i j,rfl,by omega,by omega,by rw[C3];exact hdd,hI,rfl,rfl,rfl⟩
 ·rw[if_neg (by omega)]at hI
  simp only[go_sem];rw[←hI];exact Ae (r:=.tup []) rfl rfl):p:=h
namespace Go.Proofs.YtmifmncabejffaaGreat.F
open Go Go.Av Go.Sort
section
variable{α:Type}[Inhabited α]{en:α→List AV}(hl:∀x,(en x).length=4)(ho:∀x,(en x).all AV.one=true)(hce:∀n:Nat,n+0=n){cf:α→α→Int}{g:Nat}{β:St}(hC:∀σ',(∀x o,β x=some o→σ' x=some o)→∀x y,AT Tryz.prog g [.agg (en x),.agg (en y)] σ' fun r σ''=>r=int (cf x y)∧σ''=σ')
variable{σ:St}{b cap:Nat}{d:Array α}(hb:σ b=some (.rows 4 (rw' en d) false cap))(hn:β b=none)(hs:∀x o,β x=some o→σ x=some o){n:Nat}(hd:d.size=n)(hsz:n≤1000000000000)
include hl ho hce hC hb hn hs hd hsz
abbrev Arp:=Tryz.func234
abbrev Abu:Nat:=4
theorem Ya{lo hi f:Nat}(hf:f+hi≤n)(hlo:lo≤n):AT Tryz.prog 234 [slv b n cap,int lo,int hi,int f,fnv g] σ fun _ σ'=>σ'=σ.set b (.rows 4 (rw' en (siftDown (ltc cf) hi f lo d)) false cap):=by
 have zh1:Abu=4:=rfl;exact rqq2
omit hl ho hce hC hb hn hs hd hsz in
theorem J5{lt:α→α→Bool}{hi f:Nat}:∀(m r:Nat) (d:Array α),hi-r≤m→(siftDown lt hi f r d).size=d.size
 |0,r,d,h=>by rw[J6 (by omega)]
 |m+1,r,d,h=>by
  by_cases h1:2*r+1<hi
  ·have hc:=Aby (lt:=lt) (f:=f) (d:=d) h1
   rw[Q6 h1];split
   ·rw[J5 m _ _ (by omega),C3]
   ·rfl
  ·rw[J6 h1]
abbrev Arq:=Tryz.func215
abbrev Uy:Nat:=4
theorem Xi{a e:Nat}(he:e≤n)(ha:a<e):AT Tryz.prog 215 [slv b n cap,int a,int e,fnv g] σ fun _ σ'=>σ'=σ.set b (.rows 4 (rw' en (heapSort (ltc cf) d a e)) false cap):=by
 have zh1:Uy=4:=rfl;exact rqq3
omit hl ho hce hC hb hn hs hd hsz in
theorem Alp{i j:Nat}{d:Array α}:reverseLoop i j d=if i<j then reverseLoop (i+1) (j-1) (swp d i j)else d:=by rw[reverseLoop]
abbrev Arr:=Tryz.func218
abbrev Agi:Nat:=4
omit hC hn hs in
theorem Adg{a e:Nat}(he:e≤n)(ha:a<e):AT Tryz.prog 218 [slv b n cap,int a,int e,fnv g] σ fun _ σ'=>σ'=σ.set b (.rows 4 (rw' en (reverseRange d a e)) false cap):=by
 have zh1:Agi=4:=rfl;exact rqq4
end
end Go.Proofs.YtmifmncabejffaaGreat.F
theorem Go.Proofs.YtmifmncabejffaaGreat.rqq5{p:Prop}(h:p:=by
 unfold median;have h1:=Gx (d:=d) (lt:=lt) (k:=k) ha hc;have h2:=Gx (d:=d) (lt:=lt) (k:=(order2 lt d a c k).2.2) h1.2.1 he;have h3:=Gx (d:=d) (lt:=lt) (k:=(order2 lt d (order2 lt d a c k).2.1 e (order2 lt d a c k).2.2).2.2) h1.1 h2.1;exact⟨h3.2.1,by show(order2 lt d _ _ _).2.2≤_;omega⟩):p:=h
theorem Go.Proofs.YtmifmncabejffaaGreat.rqq6{p:Prop}(h:p:=by
 refine AT.ob Ars rfl ?_;have q1:=Ax (en:=en) (d:=d) (j:=a) (by omega);have q2:=Ax (en:=en) (d:=d) (j:=c) (by omega);simp only[go_sem];refine Af [.rd 0 false,.rd 1 false,.rd 2 false,.rd 3 false,.rd 4 true,.rd 5 false,.rd 6 false,.rd 7 false,.rd 8 true,.ef 9 [],.rd 10 false] ?_;simp only[go_sem,hb,q1,q2,Bt hl];refine⟨by omega,by omega,by omega,by omega,(hC _ hs _ _).p ?_⟩;simp only[go_sem];refine aIf_by (fun g2=>?_) (fun g2=>?_)
 ·have e:order2 (ltc cf) d a c k=(c,a,k+1):=by unfold order2;exact if_pos (decide_eq_true g2)
  simp only[go_sem,hp,As k (by omega)];refine Ae (r:=.tup [int c,int a]) rfl ?_;rw[e];exact⟨rfl,rfl⟩
 ·have e:order2 (ltc cf) d a c k=(a,c,k):=by unfold order2;exact if_neg (fun h=>g2 (of_decide_eq_true h))
  simp only[go_sem];refine Ae (r:=.tup [int a,int c]) rfl ?_;rw[e];exact⟨rfl,(B8 hp).symm⟩):p:=h
theorem Go.Proofs.YtmifmncabejffaaGreat.rqq7{p:Prop}(h:p:=by
 refine AT.ob Art rfl ?_;have hm:median (ltc cf) d a c e k=((order2 (ltc cf) d (order2 (ltc cf) d a c k).1 (order2 (ltc cf) d (order2 (ltc cf) d a c k).2.1 e (order2 (ltc cf) d a c k).2.2).1 (order2 (ltc cf) d (order2 (ltc cf) d a c k).2.1 e (order2 (ltc cf) d a c k).2.2).2.2).2.1,(order2 (ltc cf) d (order2 (ltc cf) d a c k).1 (order2 (ltc cf) d (order2 (ltc cf) d a c k).2.1 e (order2 (ltc cf) d a c k).2.2).1 (order2 (ltc cf) d (order2 (ltc cf) d a c k).2.1 e (order2 (ltc cf) d a c k).2.2).2.2).2.2):=rfl;rw[hm];have l1:=Gx (d:=d) (lt:=ltc cf) (k:=k) ha hc;generalize hx1:order2 (ltc cf) d a c k=x1 at l1⊢;have l2:=Gx (d:=d) (lt:=ltc cf) (k:=x1.2.2) l1.2.1 he;generalize hx2:order2 (ltc cf) d x1.2.1 e x1.2.2=x2 at l2⊢;have l3:=Gx (d:=d) (lt:=ltc cf) (k:=x2.2.2) l1.1 l2.1;generalize hx3:order2 (ltc cf) d x1.1 x2.1 x2.2.2=x3 at l3⊢;simp only[go_sem];refine(Mn hl ho hce hC hb hn hs hd hsz hpb hpn ha hc (by omega) hp).p ?_;rw[hx1];simp only[go_sem];refine(Mn hl ho hce hC (σ:=σ.set p (.cells [int x1.2.2])) (by rw[Ag (Ne.symm hpb)];exact hb) hn (A0 hpn hs) hd hsz hpb hpn l1.2.1 he (by omega) Ab).p ?_;rw[hx2];simp only[go_sem];refine(Mn hl ho hce hC (σ:=σ.set p (.cells [int x2.2.2])) (by rw[Ag (Ne.symm hpb)];exact hb) hn (A0 hpn hs) hd hsz hpb hpn l1.1 l2.1 (by omega) Ab).p ?_;rw[hx3];simp only[go_sem];exact Ae (r:=int x3.2.1) rfl ⟨rfl,rfl⟩):p:=h
theorem Go.Proofs.YtmifmncabejffaaGreat.rqq8{p:Prop}(h:p:=by
 refine AT.ob Aru rfl ?_;have w1:IntKind.i64.wrap ((a:Int)-1)=((a-1:Nat):Int):=by rw[Am (by omega)];omega
 simp only[go_sem,w1,As a (by omega)];refine(Mj hl ho hce hC hb hn hs hd hsz hpb hpn (by omega) (by omega) ha2 hk hp).p ?_;simp only[go_sem];exact Ae (r:=int (medianAdjacent (ltc cf) d a k).1) rfl ⟨rfl,rfl⟩):p:=h
theorem Go.Proofs.YtmifmncabejffaaGreat.rqq9{p:Prop}(h:p:=by
 refine AT.ob Arv rfl ?_;obtain⟨q,hq⟩:∃q,q=(e-a)/4:=⟨_,rfl⟩;have w1:IntKind.i64.wrap ((e:Int)-a)=((e-a:Nat):Int):=by rw[Am (by omega)];omega
 have w2:IntKind.i64.wrap (((e-a:Nat):Int).tdiv 4)=(q:Int):=by rw[Int.tdiv_eq_ediv_of_nonneg (by omega),Am (by omega)];omega
 have w3:IntKind.i64.wrap ((a:Int)+IntKind.i64.wrap ((q:Int)*1))=((a+q:Nat):Int):=by rw[Am (x:=(q:Int)*1) (by omega),Am (by omega)];omega
 have w4:IntKind.i64.wrap ((a:Int)+IntKind.i64.wrap ((q:Int)*2))=((a+q*2:Nat):Int):=by rw[Am (x:=(q:Int)*2) (by omega),Am (by omega)];omega
 have w5:IntKind.i64.wrap ((a:Int)+IntKind.i64.wrap ((q:Int)*3))=((a+q*3:Nat):Int):=by rw[Am (x:=(q:Int)*3) (by omega),Am (by omega)];omega
 simp only[go_sem,w1];refine Ay fun p hp hpx=>?_;have hpb:p≠b:=fun h=>hpx b _ hb h.symm;have hpn:β p=none:=by
  cases h:β p with
  |none=>rfl
  |some o=>exact absurd rfl (hpx p o (hs p o h))
 have hb1:∀ob,(σ.set p ob) b=some (.rows Agj (rw' en d) false cap):=fun ob=>by rw[Ag (Ne.symm hpb)];exact hb
 have cp:∀r:Nat×Nat,r=(if 8≤e-a then(if 50≤e-a then median (ltc cf) d (medianAdjacent (ltc cf) d (a+q) 0).1 (medianAdjacent (ltc cf) d (a+q*2) (medianAdjacent (ltc cf) d (a+q) 0).2).1 (medianAdjacent (ltc cf) d (a+q*3) (medianAdjacent (ltc cf) d (a+q*2) (medianAdjacent (ltc cf) d (a+q) 0).2).2).1 (medianAdjacent (ltc cf) d (a+q*3) (medianAdjacent (ltc cf) d (a+q*2) (medianAdjacent (ltc cf) d (a+q) 0).2).2).2 else median (ltc cf) d (a+q) (a+q*2) (a+q*3) 0)else(a+q*2,0))→choosePivot (ltc cf) d a e=(r.1,if r.2=0 then .increasing else if r.2=12 then .decreasing else .unknown):=fun r h=>by
  subst h;subst hq;unfold choosePivot;simp only[Nat.mul_one]
 rw[if_pos (show 8≤e-a by omega)]at cp;have d8:=decide_eq_true (show(8:Int)≤((e-a:Nat):Int) by omega);have hm1:∀{a c k:Nat},1≤a→a+1<n→(medianAdjacent (ltc cf) d a k).1<n∧(medianAdjacent (ltc cf) d a k).2≤k+3:=fun h1 h2=>Vs (by omega) (by omega) h2;simp only[go_sem,w2,w3,w4,w5,w1,d8];apply Mk (fun fr σ'=>∃r:Nat×Nat,fr 13=int r.1∧fr 55=int r.2∧σ'=σ.set p (.cells [int r.2])∧choosePivot (ltc cf) d a e=(r.1,if r.2=0 then .increasing else if r.2=12 then .decreasing else .unknown))
 case h1=>
  intro key;refine aIf_by (fun g1=>?_) (fun g1=>?_)
  ·rw[if_pos (show 50≤e-a by omega)]at cp
   have l1:=hm1 (a:=a+q) (c:=0) (k:=0) (by omega) (by omega);simp only[go_sem];refine(Mi hl ho hce hC (σ:=σ.set p (.cells [int 0])) (hb1 _) hn (A0 hpn hs) hd hsz hpb hpn (a:=a+q) (k:=0) (by omega) (by omega) (by omega) Ab).p ?_;generalize medianAdjacent (ltc cf) d (a+q) 0=x1 at cp l1⊢;have l2:=hm1 (a:=a+q*2) (c:=0) (k:=x1.2) (by omega) (by omega);simp only[go_sem];refine(Mi hl ho hce hC (σ:=σ.set p (.cells [int x1.2])) (hb1 _) hn (A0 hpn hs) hd hsz hpb hpn (a:=a+q*2) (k:=x1.2) (by omega) (by omega) (by omega) Ab).p ?_;generalize medianAdjacent (ltc cf) d (a+q*2) x1.2=x2 at cp l2⊢;have l3:=hm1 (a:=a+q*3) (c:=0) (k:=x2.2) (by omega) (by omega);simp only[go_sem];refine(Mi hl ho hce hC (σ:=σ.set p (.cells [int x2.2])) (hb1 _) hn (A0 hpn hs) hd hsz hpb hpn (a:=a+q*3) (k:=x2.2) (by omega) (by omega) (by omega) Ab).p ?_;generalize medianAdjacent (ltc cf) d (a+q*3) x2.2=x3 at cp l3⊢;simp only[go_sem];refine(Mj hl ho hce hC (σ:=σ.set p (.cells [int x3.2])) (hb1 _) hn (A0 hpn hs) hd hsz hpb hpn (a:=x1.1) (c:=x2.1) (e:=x3.1) (k:=x3.2) (by omega) (by omega) (by omega) (by omega) Ab).p ?_;generalize median (ltc cf) d x1.1 x2.1 x3.1 x3.2=r at cp⊢;simp only[go_sem,Ab];refine key _ _ ?_;exact⟨r,rfl,rfl,rfl,cp r rfl⟩
  ·rw[if_neg (show¬50≤e-a by omega)]at cp
   simp only[go_sem];refine(Mj hl ho hce hC (σ:=σ.set p (.cells [int 0])) (hb1 _) hn (A0 hpn hs) hd hsz hpb hpn (a:=a+q) (c:=a+q*2) (e:=a+q*3) (k:=0) (by omega) (by omega) (by omega) (by omega) Ab).p ?_;generalize median (ltc cf) d (a+q) (a+q*2) (a+q*3) 0=r at cp⊢;simp only[go_sem,Ab];refine key _ _ ?_;exact⟨r,rfl,rfl,rfl,cp r rfl⟩
 case h2=>
  rintro fr σ1 ⟨r,f13,f55,rfl,hcp⟩;have hdr:∀v,Hf (σ.set p (.cells [int r.2])) v σ v:=fun v=>An (B7 hp fun _ _ h=>h);rw[hcp];simp only[go_sem,Aa,f55];refine aIf_by (fun k1=>?_) (fun k1=>?_)
  ·simp only[go_sem,Aa,f13]
   refine Ad (r:=.tup [int r.1,int 1]) rfl _ σ (hdr _) ⟨?_,rfl⟩;show _=AV.tup [int r.1,int (Ri (if r.2=0 then _ else _))];rw[if_pos (by omega)];rfl
  ·simp only[go_sem,Aa,f55]
   refine aIf_by (fun k2=>?_) (fun k2=>?_)
   ·simp only[go_sem,Aa,f13]
    refine Ad (r:=.tup [int r.1,int 2]) rfl _ σ (hdr _) ⟨?_,rfl⟩;show _=AV.tup [int r.1,int (Ri (if r.2=0 then _ else if r.2=12 then _ else _))];rw[if_neg (by omega),if_pos (by omega)];rfl
   ·simp only[go_sem,Aa,f13]
    refine Ad (r:=.tup [int r.1,int 0]) rfl _ σ (hdr _) ⟨?_,rfl⟩;show _=AV.tup [int r.1,int (Ri (if r.2=0 then _ else if r.2=12 then _ else _))];rw[if_neg (by omega),if_neg (by omega)];rfl):p:=h
namespace Go.Proofs.YtmifmncabejffaaGreat.F
open Go Go.Av Go.Sort
def Ri:Hint→Int
 | .unknown=>0
 | .increasing=>1
 | .decreasing=>2
section
variable{α:Type}[Inhabited α]{en:α→List AV}(hl:∀x,(en x).length=4)(ho:∀x,(en x).all AV.one=true)(hce:∀n:Nat,n+0=n){cf:α→α→Int}{g:Nat}{β:St}(hC:∀σ',(∀x o,β x=some o→σ' x=some o)→∀x y,AT Tryz.prog g [.agg (en x),.agg (en y)] σ' fun r σ''=>r=int (cf x y)∧σ''=σ')
variable{σ:St}{b cap:Nat}{d:Array α}(hb:σ b=some (.rows 4 (rw' en d) false cap))(hn:β b=none)(hs:∀x o,β x=some o→σ x=some o){n:Nat}(hd:d.size=n)(hsz:n≤1000000000000)
variable{p:Nat}(hpb:p≠b)(hpn:β p=none)
theorem Gx{lt:α→α→Bool}{a c m k:Nat}(ha:a<m)(hc:c<m):(order2 lt d a c k).1<m∧(order2 lt d a c k).2.1<m∧(order2 lt d a c k).2.2≤k+1:=by
 unfold order2;split
 ·exact⟨hc,ha,Nat.le_refl _⟩
 ·exact⟨ha,hc,Nat.le_succ _⟩
theorem Vs{lt:α→α→Bool}{a c e m k:Nat}(ha:a<m)(hc:c<m)(he:e<m):(median lt d a c e k).1<m∧(median lt d a c e k).2≤k+3:=by
 exact rqq5
include hl ho hce hC hb hn hs hd hsz hpb hpn
abbrev Ars:=Tryz.func241
theorem Mn{a c k:Nat}(ha:a<n)(hc:c<n)(hk:k≤1000)(hp:σ p=some (.cells [int k])):AT Tryz.prog 241 [slv b n cap,int a,int c,ptr p,fnv g] σ fun r σ'=>r= .tup [int (order2 (ltc cf) d a c k).1,int (order2 (ltc cf) d a c k).2.1]∧σ'=σ.set p (.cells [int (order2 (ltc cf) d a c k).2.2]):=by
 exact rqq6
abbrev Art:=Tryz.func236
theorem Mj{a c e k:Nat}(ha:a<n)(hc:c<n)(he:e<n)(hk:k≤990)(hp:σ p=some (.cells [int k])):AT Tryz.prog 236 [slv b n cap,int a,int c,int e,ptr p,fnv g] σ fun r σ'=>r=int (median (ltc cf) d a c e k).1∧σ'=σ.set p (.cells [int (median (ltc cf) d a c e k).2]):=by
 exact rqq7
abbrev Aru:=Tryz.func235
theorem Mi{a k:Nat}(ha:1≤a)(ha2:a+1<n)(hk:k≤990)(hp:σ p=some (.cells [int k])):AT Tryz.prog 235 [slv b n cap,int a,ptr p,fnv g] σ fun r σ'=>r=int (medianAdjacent (ltc cf) d a k).1∧σ'=σ.set p (.cells [int (medianAdjacent (ltc cf) d a k).2]):=by
 exact rqq8
abbrev Arv:=Tryz.func217
abbrev Agj:Nat:=4
omit hpb hpn in
theorem T5{a e:Nat}(he:e≤n)(ha:a+12<e):AT Tryz.prog 217 [slv b n cap,int a,int e,fnv g] σ fun r σ'=>r= .tup [int (choosePivot (ltc cf) d a e).1,int (Ri (choosePivot (ltc cf) d a e).2)]∧σ'=σ:=by
 have zh1:Agj=4:=rfl;exact rqq9
end
end Go.Proofs.YtmifmncabejffaaGreat.F
theorem Go.Proofs.YtmifmncabejffaaGreat.rqq10{p:Prop}(h:p:=by
 show IntKind.u64.wrap ((BitVec.ofInt 64 (x:Int)&&&BitVec.ofInt 64 (y:Int)).toNat:Int)=_;have h:x&&&y≤x:=Nat.and_le_left;rw[Rn,BitVec.toNat_and,ofI,ofI,Nat.mod_eq_of_lt hx,Nat.mod_eq_of_lt hy,Nat.mod_eq_of_lt (by omega)]):p:=h
theorem Go.Proofs.YtmifmncabejffaaGreat.rqq11{p:Prop}(h:p:=by
 refine AT.ob Ami rfl ?_;rw[Ain (by omega)];obtain⟨len,hlen⟩:∃len,len=e-a:=⟨_,rfl⟩;obtain⟨m,hm⟩:∃m,m=1<<<bitsLen len:=⟨_,rfl⟩;have hm2:m≤2*len:=by rw[hm];exact Xx (by omega)
 have hm1:1≤m:=by rw[hm,Nat.one_shiftLeft];exact Nat.one_le_two_pow
 obtain⟨q,hq⟩:∃q,q=len/4:=⟨_,rfl⟩;have w1:IntKind.i64.wrap ((e:Int)-a)=(len:Int):=by rw[Am (by omega)];omega
 have w2:IntKind.i64.wrap ((len:Int).tdiv 4)=(q:Int):=by rw[Int.tdiv_eq_ediv_of_nonneg (by omega),Am (by omega)];omega
 have w3:IntKind.i64.wrap ((a:Int)+IntKind.i64.wrap ((q:Int)*2))=((a+q*2:Nat):Int):=by rw[Am (x:=(q:Int)*2) (by omega),Am (by omega)];omega
 have w4:IntKind.i64.wrap (((a+q*2:Nat):Int)-1)=((a+q*2-1:Nat):Int):=by rw[Am (by omega)];omega
 have w5:IntKind.i64.wrap (((a+q*2:Nat):Int)+1)=((a+q*2+1:Nat):Int):=by rw[Am (by omega)];omega
 have w6:IntKind.u64.wrap (len:Int)=((UInt64.ofNat len).toNat:Int):=by rw[Rn,UInt64.toNat_ofNat']
 rw[←hlen,←hm,←hq];have d8:=decide_eq_true (show(8:Int)≤(len:Int) by omega);simp only[go_sem,w1,d8,w6];refine Ay fun r hr hrx=>?_;have hrb:r≠b:=fun h=>hrx b _ hb h.symm;simp only[go_sem];refine(Api (by omega)).p ?_;rw[←hm];simp only[go_sem,Aa,w2,w3,w4];refine⟨fun k fr σ'=>∃j:Nat,k=3-j∧j≤3∧(brk d a len m (a+q*2-1) j).2.size=n∧σ' b=some (.rows Re (rw' en (brk d a len m (a+q*2-1) j).2) false cap)∧σ' r=some (.cells [u64 (brk d a len m (a+q*2-1) j).1.toNat])∧(∀x o,σ x=some o→x≠b→σ' x=some o)∧fr 0=slv b n cap∧fr 1=int a∧fr 8=int len∧fr 9= .v (.pointer (some ⟨r,0,none⟩))∧fr 10=u64 m∧fr 11=int (a+q*2-1+j:Nat),⟨_,0,rfl,by omega,hd,by rw[Ag (Ne.symm hrb)];exact hb,Ab,fun x o hx _=>B7 hr (fun _ _ h=>h) x o hx,rfl,rfl,rfl,rfl,rfl,rfl⟩,?_⟩;rintro k fr σ' ⟨j,rfl,hj,hdd,hbb,hrr,hss,f0,f1,f8,f9,f10,f11⟩;simp only[go_sem,f1,f8,f11,w2,w3,w5];refine aIf_by (fun hlt=>?_) (fun hlt=>?_)
 ·have hj3:j<3:=by omega
  have hst:brk d a len m (a+q*2-1) (j+1)=(xorNext (brk d a len m (a+q*2-1) j).1,swp (brk d a len m (a+q*2-1) j).2 (a+q*2-1+j) (a+oth len m (xorNext (brk d a len m (a+q*2-1) j).1))):=rfl;generalize brk d a len m (a+q*2-1) j=st at hdd hbb hrr hst;obtain⟨s,dd⟩:=st;have hot:oth len m (xorNext s)<len:=by rw[hm];exact Alf (by omega)
  simp only[go_sem,Aa,f9];refine(Apc hrr).p ?_;have v1:IntKind.u64.wrap ((m:Int)-1)=((m-1:Nat):Int):=by
   rw[show((m:Int)-1)=((m-1:Nat):Int) by omega,Rn];omega
  have v2:band .u64 ((xorNext s).toNat:Int) ((m-1:Nat):Int)=(((xorNext s).toNat&&&(m-1):Nat):Int):=Aqa (xorNext s).toNat_lt (by omega);have hand:(xorNext s).toNat&&&(m-1)≤m-1:=Nat.and_le_right;obtain⟨t,ht⟩:∃t,t=(xorNext s).toNat&&&(m-1):=⟨_,rfl⟩;rw[←ht]at v2 hand;have v3:IntKind.i64.wrap (t:Int)=(t:Int):=Am (by omega);simp only[go_sem,f1,f8,f10,v1,v2,v3];refine C0 (fun fr σ''=>σ''=σ'.set r (.cells [u64 (xorNext s).toNat])∧fr 0=slv b n cap∧fr 1=int a∧fr 8=int len∧fr 9= .v (.pointer (some ⟨r,0,none⟩))∧fr 10=u64 m∧fr 11=int (a+q*2-1+j:Nat)∧fr 12=int (oth len m (xorNext s))) (fun g1=>?_) (fun g1=>?_) ?_
  ·have v4:IntKind.i64.wrap ((t:Int)-len)=((t-len:Nat):Int):=by rw[Am (by omega)];omega
   have e:oth len m (xorNext s)=t-len:=by unfold oth;rw[←ht,if_pos (by omega)]
   simp only[go_sem,f0,f1,f8,f9,f10,f11,v4,e]
  ·have e:oth len m (xorNext s)=t:=by unfold oth;rw[←ht,if_neg (by omega)]
   simp only[go_sem,f0,f1,f8,f9,f10,f11,e]
  clear f0 f1 f8 f9 f10 f11 ht v1 v2 v3;generalize oth len m (xorNext s)=k at hot hst;rintro fr σ2 ⟨hσ2,f0,f1,f8,f9,f10,f11,f12⟩;obtain⟨i,hi⟩:∃i,i=a+q*2-1+j:=⟨_,rfl⟩;have hb2:σ2 b=some (.rows Re (rw' en dd) false cap):=by rw[hσ2,Ag (Ne.symm hrb)];exact hbb
  have hr2:σ2 r=some (.cells [u64 (xorNext s).toNat]):=by rw[hσ2];exact Ab
  have hs2:∀x o,σ x=some o→x≠b→σ2 x=some o:=fun x o hx hxb=>by
   rw[hσ2,Ag (hrx x o hx)];exact hss x o hx hxb
  have hdd:dd.size=n:=hdd;have v5:IntKind.i64.wrap ((a:Int)+(k:Int))=((a+k:Nat):Int):=by rw[Am (by omega)];omega
  have v6:IntKind.i64.wrap (((a+q*2-1+j:Nat):Int)+1)=((a+q*2-1+(j+1):Nat):Int):=by rw[Am (by omega)];omega
  have q1:=Ax (en:=en) (d:=dd) (j:=a+q*2-1+j) (by omega);have q2:=Ax (en:=en) (d:=dd) (j:=a+k) (by omega);have q3:=Ax (en:=en) (d:=dd.setIfInBounds (a+q*2-1+j) dd[a+k]!) (j:=a+k) (by rw[Array.size_setIfInBounds];omega);simp only[go_sem];refine Af [.rd 0 false,.rd 1 false,.rd 2 false,.rd 3 false,.rd 4 false,.rd 5 false,.rd 6 false,.rd 7 false,.rd 8 false,.rd 9 false,.rd 10 false,.rd 11 true,.rd 12 false,.rd 13 false,.rd 14 false,.rd 15 true,.rd 16 false,.ef 17 [],.rd 18 false,.ef 19 []] ?_;simp only[go_sem,f0,f1,f11,f12,v5,hb2,Ab,q1,q2,Bt hl,Ge hl,hl,ho,hce,Fl,q3,Array.size_setIfInBounds,v6,f8,f9,f10];refine⟨by omega,by omega,by omega,by omega,by omega,by omega,by omega,by omega,3-(j+1),by omega,j+1,rfl,by omega,by rw[hst,C3];exact hdd,by rw[hst];rfl,by rw[Ag hrb,hst];exact hr2,fun x o hx hxb=>by rw[Ag hxb];exact hs2 x o hx hxb,rfl⟩
 ·obtain rfl:j=3:=by omega
  simp only[go_sem];refine Ad (r:=.tup []) rfl _ (σ.set b (.rows Re (rw' en (brk d a len m (a+q*2-1) 3).2) false cap)) (An fun x o hx=>?_) rfl;by_cases e:x=b
  ·subst e
   rw[Ab]at hx;rw[hbb];exact hx
  ·rw[Ag e]at hx
   exact hss x o hx e):p:=h
namespace Go.Proofs.YtmifmncabejffaaGreat.F
open Go Go.Av Go.Sort
section
variable{α:Type}[Inhabited α]{en:α→List AV}(hl:∀x,(en x).length=4)(ho:∀x,(en x).all AV.one=true)(hce:∀n:Nat,n+0=n){cf:α→α→Int}{g:Nat}
variable{σ:St}{b cap:Nat}{d:Array α}(hb:σ b=some (.rows 4 (rw' en d) false cap)){n:Nat}(hd:d.size=n)(hsz:n≤1000000000000)
def brk(d:Array α)(a len m i0:Nat):Nat→UInt64×Array α
 |0=>(UInt64.ofNat len,d)
 |j+1=>breakStep a len m (brk d a len m i0 j) (i0+j)
theorem Xx{len:Nat}(h:0<len):1<<<bitsLen len≤2*len:=by
 unfold bitsLen;rw[if_neg (by omega),Nat.one_shiftLeft,Nat.pow_succ];have:=Nat.log2_self_le (n:=len) (by omega);omega
theorem Ain{a e:Nat}(h:8≤e-a):breakPatterns d a e=(brk d a (e-a) (1<<<bitsLen (e-a)) (a+(e-a)/4*2-1) 3).2:=by
 unfold breakPatterns;simp only[ge_iff_le,h,if_true];rfl
theorem Aqa{x y:Nat}(hx:x<18446744073709551616)(hy:y<18446744073709551616):band .u64 (x:Int) (y:Int)=((x&&&y:Nat):Int):=by
 exact rqq10
def oth(len m:Nat)(s:UInt64):Nat:=if len≤(s.toNat&&&(m-1))then(s.toNat&&&(m-1))-len else s.toNat&&&(m-1)
theorem Alf{len:Nat}{s:UInt64}(h:0<len):oth len (1<<<bitsLen len) s<len:=by
 have h1:=Xx h;have h2:s.toNat&&&(1<<<bitsLen len-1)≤1<<<bitsLen len-1:=Nat.and_le_right;unfold oth;split<;>omega
include hl ho hce hb hd hsz
abbrev Ami:=Tryz.func216
abbrev Re:Nat:=4
theorem Su{a e:Nat}(he:e≤n)(ha:a+8≤e):AT Tryz.prog 216 [slv b n cap,int a,int e,fnv g] σ fun _ σ'=>σ'=σ.set b (.rows 4 (rw' en (breakPatterns d a e)) false cap):=by
 have zh1:Re=4:=rfl;exact rqq11
end
end Go.Proofs.YtmifmncabejffaaGreat.F
theorem Go.Proofs.YtmifmncabejffaaGreat.rqq12{p:Prop}(h:p:=by
 refine AT.ob Amj rfl ?_;simp only[go_sem,Aa,As a (by omega)];refine⟨fun m fr σ'=>∃(s i:Nat) (d':Array α),m=s∧s≤5∧a<i∧i≤e∧d'.size=n∧partialIns (ltc cf) a e s i d'=partialInsertionSort (ltc cf) d a e∧σ'=σ.set b (.rows Iy (rw' en d') false cap)∧fr 0=slv b n cap∧fr 1=int a∧fr 2=int e∧fr 3=fnv g∧fr 9=int i∧fr 10=int ((5:Int)-s),⟨_,5,a+1,d,rfl,by omega,by omega,by omega,hd,rfl,(B8 hb).symm,rfl,rfl,rfl,rfl,rfl,rfl⟩,?_⟩;rintro m fr σ' ⟨s,i,dd,hm,h5,hi1,hi2,hdd,hI,rfl,f0,f1,f2,f3,f9,f10⟩;subst hm;simp only[go_sem,f10];refine aIf_by (fun hlt=>?_) (fun hlt=>?_)
 ·obtain⟨t,rfl⟩:∃t,m=t+1:=⟨m-1,by omega⟩
  rw[Alj]at hI;simp only[go_sem];rw[Aa];simp only[go_sem];refine Jk (fun fr σ'=>σ'=σ.set b (.rows Iy (rw' en dd) false cap)∧∃j:Nat,a<j∧j≤e∧scanSorted (ltc cf) dd e i=j∧fr 0=slv b n cap∧fr 1=int a∧fr 2=int e∧fr 3=fnv g∧fr 9=int j∧fr 10=int ((5:Int)-(t+1:Nat))) ?_ ?_
  ·simp only[go_sem,Aa]
   refine⟨fun k fr σ'=>∃j:Nat,k=e-j∧a<j∧j≤e∧scanSorted (ltc cf) dd e j=scanSorted (ltc cf) dd e i∧σ'=σ.set b (.rows Iy (rw' en dd) false cap)∧fr 0=slv b n cap∧fr 1=int a∧fr 2=int e∧fr 3=fnv g∧fr 9=int j∧fr 10=int ((5:Int)-(t+1:Nat)),⟨_,i,rfl,hi1,hi2,rfl,rfl,f0,f1,f2,f3,f9,f10⟩,?_⟩;clear f0 f1 f2 f3 f9 f10 fr;rintro k fr σ' ⟨j,rfl,hj1,hj2,hJ,rfl,f0,f1,f2,f3,f9,f10⟩;rw[Af2]at hJ;have w1:IntKind.i64.wrap ((j:Int)-1)=((j-1:Nat):Int):=by rw[Am (by omega)];omega
   simp only[go_sem];refine Af [.rd 0 false,.rd 1 false,.rd 2 false,.rd 3 false,.rd 4 false,.rd 5 false,.rd 6 false,.rd 7 false,.rd 8 true,.rd 9 false,.rd 10 false,.rd 11 false,.rd 12 false,.rd 13 true,.ef 14 [],.rd 15 false,.rd 16 false,.rd 17 false] ?_;by_cases g1:(j:Int)<e
   ·have q1:=Ax (en:=en) (d:=dd) (j:=j) (by omega)
    have q2:=Ax (en:=en) (d:=dd) (j:=j-1) (by omega);simp only[go_sem,f0,f1,f2,f3,f9,decide_eq_true g1,w1,Ab,q1,q2,Bt hl];refine⟨by omega,by omega,by omega,by omega,(hC _ (A0 hn hs) _ _).p ?_⟩;simp only[go_sem];refine aIf_by (fun g2=>?_) (fun g2=>?_)
    ·rw[if_neg (by unfold ltc;rw[decide_eq_true g2];simp)]at hJ
     simp only[go_sem];exact⟨j,hj1,hj2,hJ.symm,f0,f1,f2,f3,f9,f10⟩
    ·rw[if_pos ⟨by omega,by unfold ltc;exact decide_eq_false g2⟩]at hJ
     simp only[go_sem,Aa,f0,f1,f2,f3,f9,f10,As j (by omega)];exact⟨e-(j+1),by omega,j+1,rfl,by omega,by omega,hJ,rfl⟩
   ·rw[if_neg (by omega)]at hJ
    simp only[go_sem,f2,f9,decide_eq_false g1];exact⟨j,hj1,hj2,hJ.symm,f0,f1,f3,rfl,f10⟩
  clear f0 f1 f2 f3 f9 f10 fr;rintro fr σ' ⟨rfl,j,hj1,hj2,hJ,f0,f1,f2,f3,f9,f10⟩;rw[hJ]at hI;have w1:IntKind.i64.wrap ((j:Int)-1)=((j-1:Nat):Int):=by rw[Am (by omega)];omega
  have w2:IntKind.i64.wrap ((e:Int)-a)=((e-a:Nat):Int):=by rw[Am (by omega)];omega
  have w3:IntKind.i64.wrap ((j:Int)-a)=((j-a:Nat):Int):=by rw[Am (by omega)];omega
  have w4:IntKind.i64.wrap ((e:Int)-j)=((e-j:Nat):Int):=by rw[Am (by omega)];omega
  simp only[go_sem,f2,f9];refine aIf_by (fun g1=>?_) (fun g1=>?_)
  ·rw[if_pos (by omega)]at hI
   simp only[go_sem];rw[←hI];exact Ae (r:=boo true) rfl ⟨rfl,rfl⟩
  rw[if_neg (by omega)]at hI;simp only[go_sem,f1,f2,w2];refine aIf_by (fun g2=>?_) (fun g2=>?_)
  ·rw[if_pos (by omega)]at hI
   simp only[go_sem];rw[←hI];exact Ae (r:=boo false) rfl ⟨rfl,rfl⟩
  rw[if_neg (by omega)]at hI;simp only[go_sem];have q1:=Ax (en:=en) (d:=dd) (j:=j) (by omega);have q2:=Ax (en:=en) (d:=dd) (j:=j-1) (by omega);have q3:=Ax (en:=en) (d:=dd.setIfInBounds j dd[j-1]!) (j:=j-1) (by rw[Array.size_setIfInBounds];omega);refine Af [.rd 0 false,.rd 1 false,.rd 2 false,.rd 3 false,.rd 4 false,.rd 5 false,.rd 6 false,.rd 7 false,.rd 8 false,.rd 9 true,.rd 10 false,.rd 11 false,.rd 12 false,.rd 13 true,.rd 14 false,.ef 15 [],.rd 16 false,.ef 17 []] ?_;simp only[go_sem,f0,f1,f2,f3,f9,w1,w3,Ab,q1,q2,Bt hl,Ge hl,hl,ho,hce,Fl,q3,Array.size_setIfInBounds];refine⟨by omega,by omega,by omega,by omega,by omega,by omega,by omega,by omega,?_⟩;obtain⟨d1,hd1⟩:∃d1,d1=swp dd j (j-1):=⟨_,rfl⟩;have hz1:d1.size=n:=by rw[hd1,C3];exact hdd
  have hI:partialIns (ltc cf) a e t j (if 2≤e-j then shiftUp (ltc cf) e (j+1) (if 2≤j-a then shiftDown (ltc cf) (j-1) d1 else d1)else(if 2≤j-a then shiftDown (ltc cf) (j-1) d1 else d1))=partialInsertionSort (ltc cf) d a e:=by rw[hd1];exact hI
  have e1:Cj.rows Iy (rw' en ((dd.setIfInBounds j dd[j-1]!).setIfInBounds (j-1) dd[j]!)) false cap=Cj.rows Iy (rw' en d1) false cap:=by rw[hd1];rfl
  rw[e1];clear e1 q1 q2 q3;refine C0 (fun fr σ'=>∃d2,d2=(if 2≤j-a then shiftDown (ltc cf) (j-1) d1 else d1)∧d2.size=n∧σ'=σ.set b (.rows Iy (rw' en d2) false cap)∧fr 0=slv b n cap∧fr 1=int a∧fr 2=int e∧fr 3=fnv g∧fr 9=int j∧fr 10=int ((5:Int)-(t+1:Nat))) (fun g3=>?_) (fun g3=>?_) ?_
  ·rw[if_pos (by omega)]
   simp only[go_sem,Aa,f9,w1];refine⟨fun m fr σ'=>∃(k:Nat) (dk:Array α),m=k+1∧k<n∧dk.size=n∧shiftDown (ltc cf) k dk=shiftDown (ltc cf) (j-1) d1∧σ'=σ.set b (.rows Iy (rw' en dk) false cap)∧fr 0=slv b n cap∧fr 1=int a∧fr 2=int e∧fr 3=fnv g∧fr 9=int j∧fr 10=int ((5:Int)-(t+1:Nat))∧fr 11=int k,⟨_,j-1,d1,rfl,by omega,hz1,rfl,rfl,f0,f1,f2,f3,f9,f10,rfl⟩,?_⟩;clear f0 f1 f2 f3 f9 f10 fr;rintro m fr σ' ⟨k,dk,rfl,hk,hdk,hK,rfl,f0,f1,f2,f3,f9,f10,f11⟩;simp only[go_sem,f11];refine aIf_by (fun g4=>?_) (fun g4=>?_)
   ·obtain⟨l,rfl⟩:∃l,k=l+1:=⟨k-1,by omega⟩
    have w5:IntKind.i64.wrap (((l+1:Nat):Int)-1)=(l:Int):=by rw[Am (by omega)];omega
    have q1:=Ax (en:=en) (d:=dk) (j:=l+1) (by omega);have q2:=Ax (en:=en) (d:=dk) (j:=l) (by omega);have q3:=Ax (en:=en) (d:=dk.setIfInBounds (l+1) dk[l]!) (j:=l) (by rw[Array.size_setIfInBounds];omega);rw[shiftDown]at hK;simp only[go_sem,Aa];refine Af [.rd 0 false,.rd 1 false,.rd 2 false,.rd 3 false,.rd 4 true,.rd 5 false,.rd 6 false,.rd 7 false,.rd 8 false,.rd 9 true,.ef 10 [],.rd 11 false,.rd 12 false] ?_;simp only[go_sem,f0,f3,f11,w5,Ab,q1,q2,Bt hl];refine⟨by omega,by omega,by omega,by omega,(hC _ (A0 hn hs) _ _).p ?_⟩;simp only[go_sem];refine aIf_by (fun g5=>?_) (fun g5=>?_)
    ·rw[if_neg (by unfold ltc;rw[decide_eq_true g5];simp)]at hK
     simp only[go_sem];refine Af [.rd 0 false,.rd 1 false,.rd 2 false,.rd 3 false,.rd 4 false,.rd 5 false,.rd 6 false,.rd 7 false,.rd 8 false,.rd 9 true,.rd 10 false,.rd 11 false,.rd 12 false,.rd 13 true,.rd 14 false,.ef 15 [],.rd 16 false,.ef 17 []] ?_;simp only[go_sem,f0,f3,f11,w5,Ab,q1,q2,Bt hl,Ge hl,hl,ho,hce,Fl,q3,Array.size_setIfInBounds,f1,f2,f9,f10];exact⟨by omega,by omega,by omega,by omega,by omega,by omega,by omega,by omega,l+1,by omega,l,swp dk (l+1) l,rfl,by omega,by rw[C3];exact hdk,hK,rfl,rfl⟩
    ·rw[if_pos (by unfold ltc;rw[decide_eq_false g5];rfl)]at hK
     simp only[go_sem];exact⟨dk,hK,hdk,rfl,f0,f1,f2,f3,f9,f10⟩
   ·obtain rfl:k=0:=by omega
    simp only[go_sem];exact⟨dk,hK,hdk,rfl,f0,f1,f2,f3,f9,f10⟩
  ·rw[if_neg (by omega)]
   simp only[go_sem];exact⟨d1,rfl,hz1,rfl,f0,f1,f2,f3,f9,f10⟩
  clear f0 f1 f2 f3 f9 f10 fr;rintro fr σ' ⟨d2,hd2,hz2,rfl,f0,f1,f2,f3,f9,f10⟩;rw[←hd2]at hI;clear hd1 hd2 hz1 d1;simp only[go_sem,f2,f9,w4];have w6:IntKind.i64.wrap (((5:Int)-(t+1:Nat))+1)=(5:Int)-(t:Nat):=by rw[Am (by omega)];omega
  refine aIf_by (fun g3=>?_) (fun g3=>?_)
  ·rw[if_pos (by omega)]at hI
   simp only[go_sem,Aa,f9,As j (by omega)];refine⟨fun m fr σ'=>∃(k:Nat) (dk:Array α),m=e-k∧j<k∧dk.size=n∧shiftUp (ltc cf) e k dk=shiftUp (ltc cf) e (j+1) d2∧σ'=σ.set b (.rows Iy (rw' en dk) false cap)∧fr 0=slv b n cap∧fr 1=int a∧fr 2=int e∧fr 3=fnv g∧fr 9=int j∧fr 10=int ((5:Int)-(t+1:Nat))∧fr 12=int k,⟨_,j+1,d2,rfl,by omega,hz2,rfl,rfl,f0,f1,f2,f3,f9,f10,rfl⟩,?_⟩;clear f0 f1 f2 f3 f9 f10 fr;rintro m fr σ' ⟨k,dk,rfl,hk,hdk,hK,rfl,f0,f1,f2,f3,f9,f10,f12⟩;rw[Arl]at hK;simp only[go_sem,f12,f2];refine aIf_by (fun g4=>?_) (fun g4=>?_)
   ·have w5:IntKind.i64.wrap ((k:Int)-1)=((k-1:Nat):Int):=by rw[Am (by omega)];omega
    have q1:=Ax (en:=en) (d:=dk) (j:=k) (by omega);have q2:=Ax (en:=en) (d:=dk) (j:=k-1) (by omega);have q3:=Ax (en:=en) (d:=dk.setIfInBounds k dk[k-1]!) (j:=k-1) (by rw[Array.size_setIfInBounds];omega);simp only[go_sem,Aa];refine Af [.rd 0 false,.rd 1 false,.rd 2 false,.rd 3 false,.rd 4 true,.rd 5 false,.rd 6 false,.rd 7 false,.rd 8 false,.rd 9 true,.ef 10 [],.rd 11 false,.rd 12 false] ?_;simp only[go_sem,f0,f3,f12,w5,Ab,q1,q2,Bt hl];refine⟨by omega,by omega,by omega,by omega,(hC _ (A0 hn hs) _ _).p ?_⟩;simp only[go_sem];refine aIf_by (fun g5=>?_) (fun g5=>?_)
    ·rw[if_pos ⟨by omega,by unfold ltc;exact decide_eq_true g5⟩]at hK
     simp only[go_sem];refine Af [.rd 0 false,.rd 1 false,.rd 2 false,.rd 3 false,.rd 4 false,.rd 5 false,.rd 6 false,.rd 7 false,.rd 8 false,.rd 9 true,.rd 10 false,.rd 11 false,.rd 12 false,.rd 13 true,.rd 14 false,.ef 15 [],.rd 16 false,.ef 17 []] ?_;simp only[go_sem,f0,f3,f12,w5,Ab,q1,q2,Bt hl,Ge hl,hl,ho,hce,Fl,q3,Array.size_setIfInBounds,f1,f2,f9,f10,As k (by omega)];exact⟨by omega,by omega,by omega,by omega,by omega,by omega,by omega,by omega,e-(k+1),by omega,k+1,swp dk k (k-1),rfl,by omega,by rw[C3];exact hdk,hK,rfl,rfl⟩
    ·rw[if_neg (fun h=>g5 (of_decide_eq_true h.2))]at hK
     simp only[go_sem,f0,f1,f2,f3,f9,f10,w6];exact⟨t,by omega,t,j,dk,rfl,by omega,hj1,hj2,hdk,by rw[hK];exact hI,rfl,rfl,rfl⟩
   ·rw[if_neg (fun h=>g4 (by omega))]at hK
    simp only[go_sem,f0,f1,f2,f3,f9,f10,w6];exact⟨t,by omega,t,j,dk,rfl,by omega,hj1,hj2,hdk,by rw[hK];exact hI,rfl,rfl,rfl⟩
  ·rw[if_neg (by omega)]at hI
   simp only[go_sem,f0,f1,f2,f3,f9,f10,w6];exact⟨t,by omega,t,j,d2,rfl,by omega,hj1,hj2,hz2,hI,rfl,rfl,rfl⟩
 ·obtain rfl:m=0:=by omega
  simp only[go_sem];rw[←hI];exact Ae (r:=boo false) rfl ⟨rfl,rfl⟩):p:=h
namespace Go.Proofs.YtmifmncabejffaaGreat.F
open Go Go.Av Go.Sort
section
variable{α:Type}[Inhabited α]{en:α→List AV}(hl:∀x,(en x).length=4)(ho:∀x,(en x).all AV.one=true)(hce:∀n:Nat,n+0=n){cf:α→α→Int}{g:Nat}{β:St}(hC:∀σ',(∀x o,β x=some o→σ' x=some o)→∀x y,AT Tryz.prog g [.agg (en x),.agg (en y)] σ' fun r σ''=>r=int (cf x y)∧σ''=σ')
variable{σ:St}{b cap:Nat}{d:Array α}(hb:σ b=some (.rows 4 (rw' en d) false cap))(hn:β b=none)(hs:∀x o,β x=some o→σ x=some o){n:Nat}(hd:d.size=n)(hsz:n≤1000000000000)
theorem Af2{lt:α→α→Bool}{d:Array α}{e i:Nat}:scanSorted lt d e i=if i<e∧lt d[i]! d[i-1]! =false then scanSorted lt d e (i+1)else i:=by
 rw[scanSorted];by_cases h:i<e<;>cases h2:lt d[i]! d[i-1]! <;>simp[h]
theorem Arl{lt:α→α→Bool}{d:Array α}{e j:Nat}:shiftUp lt e j d=if j<e∧lt d[j]! d[j-1]! =true then shiftUp lt e (j+1) (swp d j (j-1))else d:=by
 rw[shiftUp];by_cases h:j<e<;>cases h2:lt d[j]! d[j-1]! <;>simp[h]
def pst(lt:α→α→Bool)(a e:Nat)(i:Nat)(d:Array α):Array α:=
 let d1:=swp d i (i-1)
 let d2:=if 2≤i-a then shiftDown lt (i-1) d1 else d1
 if 2≤e-i then shiftUp lt e (i+1) d2 else d2
theorem Alj{lt:α→α→Bool}{a e s i:Nat}{d:Array α}:partialIns lt a e (s+1) i d=if scanSorted lt d e i=e then(d,true)else if e-a<50 then(d,false)else partialIns lt a e s (scanSorted lt d e i) (pst lt a e (scanSorted lt d e i) d):=rfl
include hl ho hce hC hb hn hs hd hsz
abbrev Amj:=Tryz.func219
abbrev Iy:Nat:=4
theorem Nw{a e:Nat}(he:e≤n)(ha:a<e):AT Tryz.prog 219 [slv b n cap,int a,int e,fnv g] σ fun r σ'=>r=boo (partialInsertionSort (ltc cf) d a e).2∧σ'=σ.set b (.rows 4 (rw' en (partialInsertionSort (ltc cf) d a e).1) false cap):=by
 have zh1:Iy=4:=rfl;exact rqq12
end
end Go.Proofs.YtmifmncabejffaaGreat.F
theorem Go.Proofs.YtmifmncabejffaaGreat.rqq13{p:Prop}(h:p:=by
 rw[partEqLoop];simp only[h1,h2];rw[if_neg h,dif_pos (by omega)]):p:=h
theorem Go.Proofs.YtmifmncabejffaaGreat.rqq14{p:Prop}(h:p:=by
 refine AT.ob Amk rfl ?_;have q1:=Ax (en:=en) (d:=d) (j:=a) (by omega);have q2:=Ax (en:=en) (d:=d) (j:=pv) (by omega);have q3:=Ax (en:=en) (d:=d.setIfInBounds a d[pv]!) (j:=pv) (by rw[Array.size_setIfInBounds];omega);have w1:IntKind.i64.wrap ((e:Int)-1)=((e-1:Nat):Int):=by rw[Am (by omega)];omega
 simp only[go_sem];refine Af [.rd 0 false,.rd 1 false,.rd 2 false,.rd 3 false,.rd 4 false,.rd 5 false,.rd 6 false,.rd 7 true,.rd 8 false,.rd 9 false,.rd 10 false,.rd 11 true,.rd 12 false,.ef 13 [],.rd 14 false,.ef 15 []] ?_;simp only[go_sem,Aa,hb,Ab,q1,q2,Bt hl,Ge hl,hl,ho,hce,Fl,q3,Array.size_setIfInBounds,w1,As a (by omega)];refine⟨by omega,by omega,by omega,by omega,by omega,by omega,by omega,by omega,?_⟩;clear q1 q2 q3;refine⟨fun m fr σ'=>∃(i j:Nat) (d':Array α),m=j+1-i∧a<i∧i≤e∧j<e∧i≤j+2∧d'.size=n∧partEqLoop (ltc cf) a i j d'=partitionEqual (ltc cf) d a e pv∧σ'=σ.set b (.rows L9 (rw' en d') false cap)∧fr 0=slv b n cap∧fr 1=int a∧fr 4=fnv g∧fr 11=int i∧fr 12=int j,⟨_,a+1,e-1,swp d a pv,rfl,by omega,by omega,by omega,by omega,by rw[C3];exact hd,rfl,rfl,rfl,rfl,rfl,rfl,rfl⟩,?_⟩;rintro m fr σ' ⟨i,j,dd,rfl,hi1,hi2,hj1,hij,hdd,hI,rfl,f0,f1,f4,f11,f12⟩;simp only[go_sem];rw[Aa];simp only[go_sem];refine Jk (fun fr σ'=>σ'=σ.set b (.rows L9 (rw' en dd) false cap)∧∃i2:Nat,i≤i2∧(i2≤i∨i2≤j+1)∧scanUp (fun x=>!ltc cf dd[a]! x) dd j i=i2∧fr 0=slv b n cap∧fr 1=int a∧fr 4=fnv g∧fr 11=int i2∧fr 12=int j) ?_ ?_
 ·simp only[go_sem,Aa]
  refine⟨fun m fr σ'=>∃i2:Nat,m=j+1-i2∧i≤i2∧(i2≤i∨i2≤j+1)∧scanUp (fun x=>!ltc cf dd[a]! x) dd j i2=scanUp (fun x=>!ltc cf dd[a]! x) dd j i∧σ'=σ.set b (.rows L9 (rw' en dd) false cap)∧fr 0=slv b n cap∧fr 1=int a∧fr 4=fnv g∧fr 11=int i2∧fr 12=int j,⟨_,i,rfl,by omega,by omega,rfl,rfl,f0,f1,f4,f11,f12⟩,?_⟩;clear f0 f1 f4 f11 f12 fr;rintro m fr σ' ⟨i2,rfl,h1,h2,hJ,rfl,f0,f1,f4,f11,f12⟩;rw[Yi]at hJ;simp only[go_sem];refine Af [.rd 0 false,.rd 1 false,.rd 2 false,.rd 3 false,.rd 4 false,.rd 5 false,.rd 6 false,.rd 7 false,.rd 8 true,.rd 9 false,.rd 10 false,.rd 11 false,.rd 12 true,.ef 13 [],.rd 14 false,.rd 15 false,.rd 16 false] ?_;by_cases g1:(i2:Int)≤j
  ·have q1:=Ax (en:=en) (d:=dd) (j:=i2) (by omega)
   have q2:=Ax (en:=en) (d:=dd) (j:=a) (by omega);simp only[go_sem,f0,f1,f4,f11,f12,decide_eq_true g1,Ab,q1,q2,Bt hl];refine⟨by omega,by omega,by omega,by omega,(hC _ (A0 hn hs) _ _).p ?_⟩;simp only[go_sem];refine aIf_by (fun g2=>?_) (fun g2=>?_)
   ·rw[if_neg (by unfold ltc;rw[decide_eq_true g2];simp)]at hJ
    simp only[go_sem];exact⟨i2,h1,h2,hJ.symm,f0,f1,f4,f11,f12⟩
   ·rw[if_pos ⟨by omega,by unfold ltc;rw[decide_eq_false g2];rfl⟩]at hJ
    simp only[go_sem,Aa,f0,f1,f4,f11,f12,As i2 (by omega)];exact⟨j+1-(i2+1),by omega,i2+1,rfl,by omega,by omega,hJ,rfl⟩
  ·rw[if_neg (by omega)]at hJ
   simp only[go_sem,f11,f12,decide_eq_false g1];exact⟨i2,h1,h2,hJ.symm,f0,f1,f4,rfl⟩
 clear f0 f1 f4 f11 f12 fr;rintro fr σ' ⟨rfl,i2,h1,h2,hi3,f0,f1,f4,f11,f12⟩;simp only[go_sem];refine Jk (fun fr σ'=>σ'=σ.set b (.rows L9 (rw' en dd) false cap)∧∃j2:Nat,j2≤j∧scanDown (fun x=>ltc cf dd[a]! x) dd i2 j=j2∧(i2≤j→i2≤j2+1)∧(j<i2→j2=j)∧fr 0=slv b n cap∧fr 1=int a∧fr 4=fnv g∧fr 11=int i2∧fr 12=int j2) ?_ ?_
 ·simp only[go_sem,Aa]
  refine⟨fun m fr σ'=>∃j2:Nat,m=j2∧j2≤j∧scanDown (fun x=>ltc cf dd[a]! x) dd i2 j2=scanDown (fun x=>ltc cf dd[a]! x) dd i2 j∧(i2≤j→i2≤j2+1)∧(j<i2→j2=j)∧σ'=σ.set b (.rows L9 (rw' en dd) false cap)∧fr 0=slv b n cap∧fr 1=int a∧fr 4=fnv g∧fr 11=int i2∧fr 12=int j2,⟨_,j,rfl,by omega,rfl,by omega,by omega,rfl,f0,f1,f4,f11,f12⟩,?_⟩;clear f0 f1 f4 f11 f12 fr;rintro m fr σ' ⟨j2,hm,k1,hJ,k2,k3,rfl,f0,f1,f4,f11,f12⟩;subst hm;rw[X9 (by omega)]at hJ;simp only[go_sem];refine Af [.rd 0 false,.rd 1 false,.rd 2 false,.rd 3 false,.rd 4 false,.rd 5 false,.rd 6 false,.rd 7 false,.rd 8 true,.rd 9 false,.rd 10 false,.rd 11 false,.rd 12 true,.ef 13 [],.rd 14 false,.rd 15 false] ?_;by_cases g1:(i2:Int)≤m
  ·have q1:=Ax (en:=en) (d:=dd) (j:=m) (by omega)
   have q2:=Ax (en:=en) (d:=dd) (j:=a) (by omega);have w2:IntKind.i64.wrap ((m:Int)-1)=((m-1:Nat):Int):=by rw[Am (by omega)];omega
   simp only[go_sem,f0,f1,f4,f11,f12,decide_eq_true g1,Ab,q1,q2,Bt hl];refine⟨by omega,by omega,by omega,by omega,(hC _ (A0 hn hs) _ _).p ?_⟩;simp only[go_sem];refine aIf_by (fun g2=>?_) (fun g2=>?_)
   ·rw[if_pos ⟨by omega,by unfold ltc;exact decide_eq_true g2⟩]at hJ
    simp only[go_sem,Aa,f0,f1,f4,f11,f12,w2];exact⟨m-1,by omega,m-1,rfl,by omega,hJ,by omega,by omega,rfl⟩
   ·rw[if_neg (fun h=>g2 (of_decide_eq_true h.2))]at hJ
    simp only[go_sem];exact⟨m,k1,hJ.symm,k2,k3,f0,f1,f4,f11,f12⟩
  ·rw[if_neg (fun h=>g1 (by omega))]at hJ
   simp only[go_sem,f11,f12,decide_eq_false g1];exact⟨m,k1,hJ.symm,k2,k3,f0,f1,f4,rfl⟩
 clear f0 f1 f4 f11 f12 fr;rintro fr σ' ⟨rfl,j2,k1,hj3,k2,k3,f0,f1,f4,f11,f12⟩;simp only[go_sem,f11,f12];refine aIf_by (fun g1=>?_) (fun g1=>?_)
 ·rw[Aav hi3 hj3 (by omega)]at hI
  simp only[go_sem,f11];rw[←hI];exact Ae (r:=int i2) rfl ⟨rfl,rfl⟩
 ·rw[Ali hi3 hj3 (by omega) h1 k1]at hI
  have w2:IntKind.i64.wrap ((j2:Int)-1)=((j2-1:Nat):Int):=by rw[Am (by omega)];omega
  have q1:=Ax (en:=en) (d:=dd) (j:=i2) (by omega);have q2:=Ax (en:=en) (d:=dd) (j:=j2) (by omega);have q3:=Ax (en:=en) (d:=dd.setIfInBounds i2 dd[j2]!) (j:=j2) (by rw[Array.size_setIfInBounds];omega);simp only[go_sem];refine Af [.rd 0 false,.rd 1 false,.rd 2 false,.rd 3 false,.rd 4 false,.rd 5 false,.rd 6 false,.rd 7 true,.rd 8 false,.rd 9 false,.rd 10 false,.rd 11 true,.rd 12 false,.ef 13 [],.rd 14 false,.ef 15 []] ?_;simp only[go_sem,f0,f1,f4,f11,f12,Ab,q1,q2,Bt hl,Ge hl,hl,ho,hce,Fl,q3,Array.size_setIfInBounds,w2,As i2 (by omega)];exact⟨by omega,by omega,by omega,by omega,by omega,by omega,by omega,by omega,j2-1+1-(i2+1),by omega,i2+1,j2-1,swp dd i2 j2,rfl,by omega,by omega,by omega,by omega,by rw[C3];exact hdd,hI,rfl,rfl,rfl⟩):p:=h
namespace Go.Proofs.YtmifmncabejffaaGreat.F
open Go Go.Av Go.Sort
section
variable{α:Type}[Inhabited α]{en:α→List AV}(hl:∀x,(en x).length=4)(ho:∀x,(en x).all AV.one=true)(hce:∀n:Nat,n+0=n){cf:α→α→Int}{g:Nat}{β:St}(hC:∀σ',(∀x o,β x=some o→σ' x=some o)→∀x y,AT Tryz.prog g [.agg (en x),.agg (en y)] σ' fun r σ''=>r=int (cf x y)∧σ''=σ')
variable{σ:St}{b cap:Nat}{d:Array α}(hb:σ b=some (.rows 4 (rw' en d) false cap))(hn:β b=none)(hs:∀x o,β x=some o→σ x=some o){n:Nat}(hd:d.size=n)(hsz:n≤1000000000000)
theorem Yi{p:α→Bool}{d:Array α}{j i:Nat}:scanUp p d j i=if i≤j∧p d[i]! =true then scanUp p d j (i+1)else i:=by
 rw[scanUp];by_cases h:i≤j<;>cases h2:p d[i]! <;>simp[h]
theorem X9{p:α→Bool}{d:Array α}{i j:Nat}(hi:1≤i):scanDown p d i j=if i≤j∧p d[j]! =true then scanDown p d i (j-1)else j:=by
 cases j with
 |zero=>rw[scanDown,if_neg (fun h=>by omega)]
 |succ k=>
  rw[scanDown];by_cases h:i≤k+1<;>cases h2:p d[k+1]! <;>simp[h]
theorem Aav{lt:α→α→Bool}{a i j i2 j2:Nat}{d:Array α}(h1:scanUp (fun x=>!lt d[a]! x) d j i=i2)(h2:scanDown (fun x=>lt d[a]! x) d i2 j=j2)(h:j2<i2):partEqLoop lt a i j d=(i2,d):=by
 rw[partEqLoop];simp only[h1,h2];rw[if_pos h]
theorem Ali{lt:α→α→Bool}{a i j i2 j2:Nat}{d:Array α}(h1:scanUp (fun x=>!lt d[a]! x) d j i=i2)(h2:scanDown (fun x=>lt d[a]! x) d i2 j=j2)(h:¬j2<i2)(hi:i≤i2)(hj:j2≤j):partEqLoop lt a i j d=partEqLoop lt a (i2+1) (j2-1) (swp d i2 j2):=by
 exact rqq13
include hl ho hce hC hb hn hs hd hsz
abbrev Amk:=Tryz.func220
abbrev L9:Nat:=4
theorem Qz{a e pv:Nat}(he:e≤n)(ha:a+2≤e)(hp:pv<n):AT Tryz.prog 220 [slv b n cap,int a,int e,int pv,fnv g] σ fun r σ'=>r=int (partitionEqual (ltc cf) d a e pv).1∧σ'=σ.set b (.rows 4 (rw' en (partitionEqual (ltc cf) d a e pv).2) false cap):=by
 have zh1:L9=4:=rfl;exact rqq14
end
end Go.Proofs.YtmifmncabejffaaGreat.F
theorem Go.Proofs.YtmifmncabejffaaGreat.rqq15{p:Prop}(h:p:=by
 rw[partLoop];simp only[h1,h2];rw[if_neg h,dif_pos (by omega)]):p:=h
theorem Go.Proofs.YtmifmncabejffaaGreat.rqq16{p:Prop}(h:p:=by
 unfold partition;simp only[←h0,h1,h2];rw[if_neg h]):p:=h
theorem Go.Proofs.YtmifmncabejffaaGreat.rqq17{p:Prop}(h:p:=by
 refine AT.ob Aml rfl ?_;have q1:=Ax (en:=en) (d:=d) (j:=a) (by omega);have q2:=Ax (en:=en) (d:=d) (j:=pv) (by omega);have q3:=Ax (en:=en) (d:=d.setIfInBounds a d[pv]!) (j:=pv) (by rw[Array.size_setIfInBounds];omega);have w1:IntKind.i64.wrap ((e:Int)-1)=((e-1:Nat):Int):=by rw[Am (by omega)];omega
 simp only[go_sem];refine Af [.rd 0 false,.rd 1 false,.rd 2 false,.rd 3 false,.rd 4 false,.rd 5 false,.rd 6 false,.rd 7 true,.rd 8 false,.rd 9 false,.rd 10 false,.rd 11 true,.rd 12 false,.ef 13 [],.rd 14 false,.ef 15 []] ?_;simp only[go_sem,hb,Ab,q1,q2,Bt hl,Ge hl,hl,ho,hce,Fl,q3,Array.size_setIfInBounds,w1,As a (by omega)];refine⟨by omega,by omega,by omega,by omega,by omega,by omega,by omega,by omega,?_⟩;clear q1 q2 q3;obtain⟨d0,hd0⟩:∃d0,d0=swp d a pv:=⟨_,rfl⟩;have hz0:d0.size=n:=by rw[hd0,C3];exact hd
 have e1:Cj.rows Fo (rw' en ((d.setIfInBounds a d[pv]!).setIfInBounds pv d[a]!)) false cap=Cj.rows Fo (rw' en d0) false cap:=by rw[hd0];rfl
 rw[e1];clear e1;apply Mk (fun fr σ'=>σ'=σ.set b (.rows Fo (rw' en d0) false cap)∧fr 0=slv b n cap∧fr 1=int a∧fr 4=fnv g∧fr 12=int (a+1:Nat)∧fr 13=int (e-1:Nat))
 case h1=>exact fun key=>key _ _ ⟨rfl,rfl,rfl,rfl,rfl,rfl⟩
 rintro fr σ' ⟨rfl,f0,f1,f4,f12,f13⟩;obtain⟨i0,hi0⟩:∃i0,i0=a+1:=⟨_,rfl⟩;obtain⟨j0,hj0⟩:∃j0,j0=e-1:=⟨_,rfl⟩;rw[←hi0]at f12;rw[←hj0]at f13;refine Jk (fun fr σ'=>σ'=σ.set b (.rows Fo (rw' en d0) false cap)∧∃i2:Nat,i0≤i2∧(i2≤i0∨i2≤j0+1)∧scanUp (fun x=>ltc cf x d0[a]!) d0 j0 i0=i2∧fr 0=slv b n cap∧fr 1=int a∧fr 4=fnv g∧fr 12=int i2∧fr 13=int j0) ?_ ?_
 ·simp only[go_sem,Aa]
  refine⟨fun m fr σ'=>∃i2:Nat,m=j0+1-i2∧i0≤i2∧(i2≤i0∨i2≤j0+1)∧scanUp (fun x=>ltc cf x d0[a]!) d0 j0 i2=scanUp (fun x=>ltc cf x d0[a]!) d0 j0 i0∧σ'=σ.set b (.rows Fo (rw' en d0) false cap)∧fr 0=slv b n cap∧fr 1=int a∧fr 4=fnv g∧fr 12=int i2∧fr 13=int j0,⟨_,i0,rfl,by omega,by omega,rfl,rfl,f0,f1,f4,f12,f13⟩,?_⟩;clear f0 f1 f4 f12 f13;rintro m fr σ' ⟨i2,rfl,h1,h2,hJ,rfl,f0,f1,f4,f12,f13⟩;rw[Yi]at hJ;simp only[go_sem];refine Af [.rd 0 false,.rd 1 false,.rd 2 false,.rd 3 false,.rd 4 false,.rd 5 false,.rd 6 false,.rd 7 false,.rd 8 true,.rd 9 false,.rd 10 false,.rd 11 false,.rd 12 true,.ef 13 [],.rd 14 false,.rd 15 false] ?_;by_cases g1:(i2:Int)≤(j0:Nat)
  ·have q1:=Ax (en:=en) (d:=d0) (j:=i2) (by omega)
   have q2:=Ax (en:=en) (d:=d0) (j:=a) (by omega);simp only[go_sem,f0,f1,f4,f12,f13,decide_eq_true g1,Ab,q1,q2,Bt hl];refine⟨by omega,by omega,by omega,by omega,(hC _ (A0 hn hs) _ _).p ?_⟩;simp only[go_sem];refine aIf_by (fun g2=>?_) (fun g2=>?_)
   ·rw[if_pos ⟨by omega,by unfold ltc;exact decide_eq_true g2⟩]at hJ
    simp only[go_sem,Aa,f0,f1,f4,f12,f13,As i2 (by omega)];exact⟨j0+1-(i2+1),by omega,i2+1,rfl,by omega,by omega,hJ,rfl⟩
   ·rw[if_neg (fun h=>g2 (of_decide_eq_true h.2))]at hJ
    simp only[go_sem];exact⟨i2,h1,h2,hJ.symm,f0,f1,f4,f12,f13⟩
  ·rw[if_neg (fun h=>g1 (by omega))]at hJ
   simp only[go_sem,f12,f13,decide_eq_false g1];exact⟨i2,h1,h2,hJ.symm,f0,f1,f4,rfl⟩
 clear f0 f1 f4 f12 f13;rintro fr σ' ⟨rfl,i2,h1,h2,hi3,f0,f1,f4,f12,f13⟩;simp only[go_sem];refine Jk (fun fr σ'=>σ'=σ.set b (.rows Fo (rw' en d0) false cap)∧∃j2:Nat,j2≤j0∧scanDown (fun x=>!ltc cf x d0[a]!) d0 i2 j0=j2∧(i2≤j0→i2≤j2+1)∧(j0<i2→j2=j0)∧fr 0=slv b n cap∧fr 1=int a∧fr 4=fnv g∧fr 12=int i2∧fr 13=int j2) ?_ ?_
 ·simp only[go_sem,Aa]
  refine⟨fun m fr σ'=>∃j2:Nat,m=j2∧j2≤j0∧scanDown (fun x=>!ltc cf x d0[a]!) d0 i2 j2=scanDown (fun x=>!ltc cf x d0[a]!) d0 i2 j0∧(i2≤j0→i2≤j2+1)∧(j0<i2→j2=j0)∧σ'=σ.set b (.rows Fo (rw' en d0) false cap)∧fr 0=slv b n cap∧fr 1=int a∧fr 4=fnv g∧fr 12=int i2∧fr 13=int j2,⟨_,j0,rfl,by omega,rfl,by omega,by omega,rfl,f0,f1,f4,f12,f13⟩,?_⟩;clear f0 f1 f4 f12 f13;rintro m fr σ' ⟨j2,hm,k1,hJ,k2,k3,rfl,f0,f1,f4,f12,f13⟩;subst hm;rw[X9 (by omega)]at hJ;simp only[go_sem];refine Af [.rd 0 false,.rd 1 false,.rd 2 false,.rd 3 false,.rd 4 false,.rd 5 false,.rd 6 false,.rd 7 false,.rd 8 true,.rd 9 false,.rd 10 false,.rd 11 false,.rd 12 true,.ef 13 [],.rd 14 false,.rd 15 false,.rd 16 false] ?_;by_cases g1:(i2:Int)≤m
  ·have q1:=Ax (en:=en) (d:=d0) (j:=m) (by omega)
   have q2:=Ax (en:=en) (d:=d0) (j:=a) (by omega);have w2:IntKind.i64.wrap ((m:Int)-1)=((m-1:Nat):Int):=by rw[Am (by omega)];omega
   simp only[go_sem,f0,f1,f4,f12,f13,decide_eq_true g1,Ab,q1,q2,Bt hl];refine⟨by omega,by omega,by omega,by omega,(hC _ (A0 hn hs) _ _).p ?_⟩;simp only[go_sem];refine aIf_by (fun g2=>?_) (fun g2=>?_)
   ·rw[if_neg (by unfold ltc;rw[decide_eq_true g2];simp)]at hJ
    simp only[go_sem];exact⟨m,k1,hJ.symm,k2,k3,f0,f1,f4,f12,f13⟩
   ·rw[if_pos ⟨by omega,by unfold ltc;rw[decide_eq_false g2];rfl⟩]at hJ
    simp only[go_sem,Aa,f0,f1,f4,f12,f13,w2];exact⟨m-1,by omega,m-1,rfl,by omega,hJ,by omega,by omega,rfl⟩
  ·rw[if_neg (fun h=>g1 (by omega))]at hJ
   simp only[go_sem,f12,f13,decide_eq_false g1];exact⟨m,k1,hJ.symm,k2,k3,f0,f1,f4,rfl⟩
 clear f0 f1 f4 f12 f13;rintro fr σ' ⟨rfl,j2,k1,hj3,k2,k3,f0,f1,f4,f12,f13⟩;rw[hi0,hj0]at hi3;rw[hj0]at hj3;simp only[go_sem,f12,f13];have q1:=Ax (en:=en) (d:=d0) (j:=a) (by omega);refine aIf_by (fun g1=>?_) (fun g1=>?_)
 ·rw[Afu hd0 hi3 hj3 (by omega)]
  have q2:=Ax (en:=en) (d:=d0) (j:=j2) (by omega);have q3:=Ax (en:=en) (d:=d0.setIfInBounds j2 d0[a]!) (j:=a) (by rw[Array.size_setIfInBounds];omega);simp only[go_sem];refine Af [.rd 0 false,.rd 1 false,.rd 2 false,.rd 3 false,.rd 4 false,.rd 5 false,.rd 6 false,.rd 7 true,.rd 8 false,.rd 9 false,.rd 10 false,.rd 11 true,.rd 12 false,.ef 13 [],.rd 14 false,.ef 15 []] ?_;simp only[go_sem,f0,f1,f4,f12,f13,Ab,q1,q2,Bt hl,Ge hl,hl,ho,hce,Fl,q3,Array.size_setIfInBounds];refine⟨by omega,by omega,by omega,by omega,by omega,by omega,by omega,by omega,?_⟩;exact Ae (r:=.tup [int j2,boo true]) rfl ⟨rfl,rfl⟩
 ·rw[Aq9 hd0 hi3 hj3 (by omega)]
  have w2:IntKind.i64.wrap ((j2:Int)-1)=((j2-1:Nat):Int):=by rw[Am (by omega)];omega
  have q1:=Ax (en:=en) (d:=d0) (j:=i2) (by omega);have q2:=Ax (en:=en) (d:=d0) (j:=j2) (by omega);have q3:=Ax (en:=en) (d:=d0.setIfInBounds i2 d0[j2]!) (j:=j2) (by rw[Array.size_setIfInBounds];omega);simp only[go_sem];refine Af [.rd 0 false,.rd 1 false,.rd 2 false,.rd 3 false,.rd 4 false,.rd 5 false,.rd 6 false,.rd 7 true,.rd 8 false,.rd 9 false,.rd 10 false,.rd 11 true,.rd 12 false,.ef 13 [],.rd 14 false,.ef 15 []] ?_;simp only[go_sem,Aa,f0,f1,f4,f12,f13,Ab,q1,q2,Bt hl,Ge hl,hl,ho,hce,Fl,q3,Array.size_setIfInBounds,w2,As i2 (by omega)];refine⟨by omega,by omega,by omega,by omega,by omega,by omega,by omega,by omega,?_⟩;clear q1 q2 q3;obtain⟨R,hR⟩:∃R,R=partLoop (ltc cf) a (i2+1) (j2-1) (swp d0 i2 j2):=⟨_,rfl⟩;rw[←hR];refine⟨fun m fr σ'=>∃(i j:Nat) (d':Array α),m=j+1-i∧a<i∧i≤e∧j<e∧i≤j+2∧d'.size=n∧partLoop (ltc cf) a i j d'=R∧σ'=σ.set b (.rows Fo (rw' en d') false cap)∧fr 0=slv b n cap∧fr 1=int a∧fr 4=fnv g∧fr 12=int i∧fr 13=int j,⟨_,i2+1,j2-1,swp d0 i2 j2,rfl,by omega,by omega,by omega,by omega,by rw[C3];exact hz0,hR.symm,rfl,f0,f1,f4,rfl,rfl⟩,?_⟩;clear f0 f1 f4 f12 f13 hi3 hj3 k2 k3 h1 h2 k1 w2 g1 i2 j2 hR;rintro m fr σ' ⟨i,j,dd,rfl,hi1,hi2,hj1,hij,hdd,hI,rfl,f0,f1,f4,f12,f13⟩;simp only[go_sem];rw[Aa];simp only[go_sem];refine Jk (fun fr σ'=>σ'=σ.set b (.rows Fo (rw' en dd) false cap)∧∃i2:Nat,i≤i2∧(i2≤i∨i2≤j+1)∧scanUp (fun x=>ltc cf x dd[a]!) dd j i=i2∧fr 0=slv b n cap∧fr 1=int a∧fr 4=fnv g∧fr 12=int i2∧fr 13=int j) ?_ ?_
  ·simp only[go_sem,Aa]
   refine⟨fun m fr σ'=>∃i2:Nat,m=j+1-i2∧i≤i2∧(i2≤i∨i2≤j+1)∧scanUp (fun x=>ltc cf x dd[a]!) dd j i2=scanUp (fun x=>ltc cf x dd[a]!) dd j i∧σ'=σ.set b (.rows Fo (rw' en dd) false cap)∧fr 0=slv b n cap∧fr 1=int a∧fr 4=fnv g∧fr 12=int i2∧fr 13=int j,⟨_,i,rfl,by omega,by omega,rfl,rfl,f0,f1,f4,f12,f13⟩,?_⟩;clear f0 f1 f4 f12 f13;rintro m fr σ' ⟨i2,rfl,h1,h2,hJ,rfl,f0,f1,f4,f12,f13⟩;rw[Yi]at hJ;simp only[go_sem];refine Af [.rd 0 false,.rd 1 false,.rd 2 false,.rd 3 false,.rd 4 false,.rd 5 false,.rd 6 false,.rd 7 false,.rd 8 true,.rd 9 false,.rd 10 false,.rd 11 false,.rd 12 true,.ef 13 [],.rd 14 false,.rd 15 false] ?_;by_cases g1:(i2:Int)≤(j:Nat)
   ·have q1:=Ax (en:=en) (d:=dd) (j:=i2) (by omega)
    have q2:=Ax (en:=en) (d:=dd) (j:=a) (by omega);simp only[go_sem,f0,f1,f4,f12,f13,decide_eq_true g1,Ab,q1,q2,Bt hl];refine⟨by omega,by omega,by omega,by omega,(hC _ (A0 hn hs) _ _).p ?_⟩;simp only[go_sem];refine aIf_by (fun g2=>?_) (fun g2=>?_)
    ·rw[if_pos ⟨by omega,by unfold ltc;exact decide_eq_true g2⟩]at hJ
     simp only[go_sem,Aa,f0,f1,f4,f12,f13,As i2 (by omega)];exact⟨j+1-(i2+1),by omega,i2+1,rfl,by omega,by omega,hJ,rfl⟩
    ·rw[if_neg (fun h=>g2 (of_decide_eq_true h.2))]at hJ
     simp only[go_sem];exact⟨i2,h1,h2,hJ.symm,f0,f1,f4,f12,f13⟩
   ·rw[if_neg (fun h=>g1 (by omega))]at hJ
    simp only[go_sem,f12,f13,decide_eq_false g1];exact⟨i2,h1,h2,hJ.symm,f0,f1,f4,rfl⟩
  clear f0 f1 f4 f12 f13;rintro fr σ' ⟨rfl,i2,h1,h2,hi3,f0,f1,f4,f12,f13⟩;simp only[go_sem];refine Jk (fun fr σ'=>σ'=σ.set b (.rows Fo (rw' en dd) false cap)∧∃j2:Nat,j2≤j∧scanDown (fun x=>!ltc cf x dd[a]!) dd i2 j=j2∧(i2≤j→i2≤j2+1)∧(j<i2→j2=j)∧fr 0=slv b n cap∧fr 1=int a∧fr 4=fnv g∧fr 12=int i2∧fr 13=int j2) ?_ ?_
  ·simp only[go_sem,Aa]
   refine⟨fun m fr σ'=>∃j2:Nat,m=j2∧j2≤j∧scanDown (fun x=>!ltc cf x dd[a]!) dd i2 j2=scanDown (fun x=>!ltc cf x dd[a]!) dd i2 j∧(i2≤j→i2≤j2+1)∧(j<i2→j2=j)∧σ'=σ.set b (.rows Fo (rw' en dd) false cap)∧fr 0=slv b n cap∧fr 1=int a∧fr 4=fnv g∧fr 12=int i2∧fr 13=int j2,⟨_,j,rfl,by omega,rfl,by omega,by omega,rfl,f0,f1,f4,f12,f13⟩,?_⟩;clear f0 f1 f4 f12 f13;rintro m fr σ' ⟨j2,hm,k1,hJ,k2,k3,rfl,f0,f1,f4,f12,f13⟩;subst hm;rw[X9 (by omega)]at hJ;simp only[go_sem];refine Af [.rd 0 false,.rd 1 false,.rd 2 false,.rd 3 false,.rd 4 false,.rd 5 false,.rd 6 false,.rd 7 false,.rd 8 true,.rd 9 false,.rd 10 false,.rd 11 false,.rd 12 true,.ef 13 [],.rd 14 false,.rd 15 false,.rd 16 false] ?_;by_cases g1:(i2:Int)≤m
   ·have q1:=Ax (en:=en) (d:=dd) (j:=m) (by omega)
    have q2:=Ax (en:=en) (d:=dd) (j:=a) (by omega);have w2:IntKind.i64.wrap ((m:Int)-1)=((m-1:Nat):Int):=by rw[Am (by omega)];omega
    simp only[go_sem,f0,f1,f4,f12,f13,decide_eq_true g1,Ab,q1,q2,Bt hl];refine⟨by omega,by omega,by omega,by omega,(hC _ (A0 hn hs) _ _).p ?_⟩;simp only[go_sem];refine aIf_by (fun g2=>?_) (fun g2=>?_)
    ·rw[if_neg (by unfold ltc;rw[decide_eq_true g2];simp)]at hJ
     simp only[go_sem];exact⟨m,k1,hJ.symm,k2,k3,f0,f1,f4,f12,f13⟩
    ·rw[if_pos ⟨by omega,by unfold ltc;rw[decide_eq_false g2];rfl⟩]at hJ
     simp only[go_sem,Aa,f0,f1,f4,f12,f13,w2];exact⟨m-1,by omega,m-1,rfl,by omega,hJ,by omega,by omega,rfl⟩
   ·rw[if_neg (fun h=>g1 (by omega))]at hJ
    simp only[go_sem,f12,f13,decide_eq_false g1];exact⟨m,k1,hJ.symm,k2,k3,f0,f1,f4,rfl⟩
  clear f0 f1 f4 f12 f13;rintro fr σ' ⟨rfl,j2,k1,hj3,k2,k3,f0,f1,f4,f12,f13⟩;simp only[go_sem,f12,f13];refine aIf_by (fun g1=>?_) (fun g1=>?_)
  ·rw[Afs hi3 hj3 (by omega)]at hI
   rw[←hI];have q1:=Ax (en:=en) (d:=dd) (j:=a) (by omega);have q2:=Ax (en:=en) (d:=dd) (j:=j2) (by omega);have q3:=Ax (en:=en) (d:=dd.setIfInBounds j2 dd[a]!) (j:=a) (by rw[Array.size_setIfInBounds];omega);simp only[go_sem];refine Af [.rd 0 false,.rd 1 false,.rd 2 false,.rd 3 false,.rd 4 false,.rd 5 false,.rd 6 false,.rd 7 true,.rd 8 false,.rd 9 false,.rd 10 false,.rd 11 true,.rd 12 false,.ef 13 [],.rd 14 false,.ef 15 []] ?_;simp only[go_sem,f0,f1,f4,f12,f13,Ab,q1,q2,Bt hl,Ge hl,hl,ho,hce,Fl,q3,Array.size_setIfInBounds];refine⟨by omega,by omega,by omega,by omega,by omega,by omega,by omega,by omega,?_⟩;exact Ae (r:=.tup [int j2,boo false]) rfl ⟨rfl,rfl⟩
  ·rw[Aq8 hi3 hj3 (by omega) h1 k1]at hI
   have w2:IntKind.i64.wrap ((j2:Int)-1)=((j2-1:Nat):Int):=by rw[Am (by omega)];omega
   have q1:=Ax (en:=en) (d:=dd) (j:=i2) (by omega);have q2:=Ax (en:=en) (d:=dd) (j:=j2) (by omega);have q3:=Ax (en:=en) (d:=dd.setIfInBounds i2 dd[j2]!) (j:=j2) (by rw[Array.size_setIfInBounds];omega);simp only[go_sem];refine Af [.rd 0 false,.rd 1 false,.rd 2 false,.rd 3 false,.rd 4 false,.rd 5 false,.rd 6 false,.rd 7 true,.rd 8 false,.rd 9 false,.rd 10 false,.rd 11 true,.rd 12 false,.ef 13 [],.rd 14 false,.ef 15 []] ?_;simp only[go_sem,f0,f1,f4,f12,f13,Ab,q1,q2,Bt hl,Ge hl,hl,ho,hce,Fl,q3,Array.size_setIfInBounds,w2,As i2 (by omega)];exact⟨by omega,by omega,by omega,by omega,by omega,by omega,by omega,by omega,j2-1+1-(i2+1),by omega,i2+1,j2-1,swp dd i2 j2,rfl,by omega,by omega,by omega,by omega,by rw[C3];exact hdd,hI,rfl,rfl,rfl⟩):p:=h
namespace Go.Proofs.YtmifmncabejffaaGreat.F
open Go Go.Av Go.Sort
section
variable{α:Type}[Inhabited α]{en:α→List AV}(hl:∀x,(en x).length=4)(ho:∀x,(en x).all AV.one=true)(hce:∀n:Nat,n+0=n){cf:α→α→Int}{g:Nat}{β:St}(hC:∀σ',(∀x o,β x=some o→σ' x=some o)→∀x y,AT Tryz.prog g [.agg (en x),.agg (en y)] σ' fun r σ''=>r=int (cf x y)∧σ''=σ')
variable{σ:St}{b cap:Nat}{d:Array α}(hb:σ b=some (.rows 4 (rw' en d) false cap))(hn:β b=none)(hs:∀x o,β x=some o→σ x=some o){n:Nat}(hd:d.size=n)(hsz:n≤1000000000000)
theorem Afs{lt:α→α→Bool}{a i j i2 j2:Nat}{d:Array α}(h1:scanUp (fun x=>lt x d[a]!) d j i=i2)(h2:scanDown (fun x=>!lt x d[a]!) d i2 j=j2)(h:j2<i2):partLoop lt a i j d=(j2,d):=by
 rw[partLoop];simp only[h1,h2];rw[if_pos h]
theorem Aq8{lt:α→α→Bool}{a i j i2 j2:Nat}{d:Array α}(h1:scanUp (fun x=>lt x d[a]!) d j i=i2)(h2:scanDown (fun x=>!lt x d[a]!) d i2 j=j2)(h:¬j2<i2)(hi:i≤i2)(hj:j2≤j):partLoop lt a i j d=partLoop lt a (i2+1) (j2-1) (swp d i2 j2):=by
 exact rqq15
theorem Afu{lt:α→α→Bool}{a e pv i2 j2:Nat}{d d0:Array α}(h0:d0=swp d a pv)(h1:scanUp (fun x=>lt x d0[a]!) d0 (e-1) (a+1)=i2)(h2:scanDown (fun x=>!lt x d0[a]!) d0 i2 (e-1)=j2)(h:j2<i2):partition lt d a e pv=(j2,true,swp d0 j2 a):=by
 unfold partition;simp only[←h0,h1,h2];rw[if_pos h]
theorem Aq9{lt:α→α→Bool}{a e pv i2 j2:Nat}{d d0:Array α}(h0:d0=swp d a pv)(h1:scanUp (fun x=>lt x d0[a]!) d0 (e-1) (a+1)=i2)(h2:scanDown (fun x=>!lt x d0[a]!) d0 i2 (e-1)=j2)(h:¬j2<i2):partition lt d a e pv=((partLoop lt a (i2+1) (j2-1) (swp d0 i2 j2)).1,false,swp (partLoop lt a (i2+1) (j2-1) (swp d0 i2 j2)).2 (partLoop lt a (i2+1) (j2-1) (swp d0 i2 j2)).1 a):=by
 exact rqq16
include hl ho hce hC hb hn hs hd hsz
abbrev Aml:=Tryz.func221
abbrev Fo:Nat:=4
theorem Po{a e pv:Nat}(he:e≤n)(ha:a+2≤e)(hp:pv<n):AT Tryz.prog 221 [slv b n cap,int a,int e,int pv,fnv g] σ fun r σ'=>r= .tup [int (partition (ltc cf) d a e pv).1,boo (partition (ltc cf) d a e pv).2.1]∧σ'=σ.set b (.rows 4 (rw' en (partition (ltc cf) d a e pv).2.2) false cap):=by
 have zh1:Fo=4:=rfl;exact rqq17
end
end Go.Proofs.YtmifmncabejffaaGreat.F
theorem Go.Proofs.YtmifmncabejffaaGreat.rqq18{p:Prop}(h:p:=by
 refine AT.ob Amm rfl ?_;have w1:IntKind.u64.wrap (n:Int)=(n:Int):=by rw[Rn];omega
 simp only[go_sem,w1];refine(Xm (x:=n) (by omega)).p ?_;have hbl:=Ad7 (z:=n) (by omega);simp only[go_sem];refine(Alh hl ho hce hC hn hsz hS n (a:=0) (e:=n) (limit:=bitsLen n) (by omega) hb hs hd (by omega) (by omega) (by omega) (.inl rfl)).mono ?_;rintro _ _ ⟨d',rfl,h1,h2⟩;simp only[go_sem];refine Ae (r:=.tup []) rfl ⟨d',rfl,?_,h2⟩;have h3:=h1.2.2;rw[Array.extract_eq_self_of_le (by rw[h1.1];omega),Array.extract_eq_self_of_le (by omega)]at h3;exact h3):p:=h
namespace Go.Proofs.YtmifmncabejffaaGreat.F
open Go Go.Av Go.Sort
section
variable{α:Type}[Inhabited α]{en:α→List AV}(hl:∀x,(en x).length=4)(ho:∀x,(en x).all AV.one=true)(hce:∀n:Nat,n+0=n){cf:α→α→Int}{g:Nat}{β:St}(hC:∀σ',(∀x o,β x=some o→σ' x=some o)→∀x y,AT Tryz.prog g [.agg (en x),.agg (en y)] σ' fun r σ''=>r=int (cf x y)∧σ''=σ')
variable{b cap:Nat}(hn:β b=none){n:Nat}(hsz:n≤1000000000000)(hS:SWO (ltc cf))
include hl ho hce hC hn hsz hS
theorem Alh:∀(w:Nat) {σ:St} {d:Array α} {a e limit:Nat},e-a≤w→σ b=some (.rows 4 (rw' en d) false cap)→(∀x o,β x=some o→σ x=some o)→d.size=n→a≤e→e≤n→limit≤1000→Below (ltc cf) a e d→
  AT Tryz.prog 171 [slv b n cap,int a,int e,int limit,fnv g] σ fun _ σ'=>∃d',σ'=σ.set b (.rows 4 (rw' en d') false cap)∧PermIn a e d d'∧SortedIn (ltc cf) a e d':=by
 intro w
 induction w using Nat.strongRecOn with
 |ind w ih=>
 intro σ d a e limit hw hb hs hd hae he hlim hB;refine AT.ob Tryz.func171 rfl ?_;simp only[go_sem,Aa];refine⟨fun m fr σ'=>∃(p q lim:Nat) (wb wp:Bool) (d':Array α),m=q-p∧p≤q∧q≤n∧q-p≤w∧lim≤1000∧d'.size=n∧Below (ltc cf) p q d'∧(∀R,PermIn p q d' R→SortedIn (ltc cf) p q R→PermIn a e d R∧SortedIn (ltc cf) a e R)∧σ'=σ.set b (.rows 4 (rw' en d') false cap)∧fr 0=slv b n cap∧fr 1=int p∧fr 2=int q∧fr 3=int lim∧fr 4=fnv g∧fr 10=boo wb∧fr 11=boo wp,⟨_,a,e,limit,true,true,d,rfl,hae,he,hw,hlim,hd,hB,fun R h1 h2=>⟨h1,h2⟩,(B8 hb).symm,rfl,rfl,rfl,rfl,rfl,rfl,rfl⟩,?_⟩;rintro m fr σ' ⟨p,q,lim,wb,wp,dd,rfl,hpq,hq,hw2,hlim2,hdd,hB2,hF,rfl,f0,f1,f2,f3,f4,f10,f11⟩;have w1:IntKind.i64.wrap ((q:Int)-p)=((q-p:Nat):Int):=by rw[Am (by omega)];omega
 simp only[go_sem];rw[Aa];simp only[go_sem,f1,f2,w1];refine aIf_by (fun g1=>?_) (fun g1=>?_)
 ·simp only[go_sem,f0,f1,f2,f4]
  refine(Ih hl ho hce hC (σ:=σ.set b (.rows 4 (rw' en dd) false cap)) (d:=dd) Ab hn (A0 hn hs) hdd hsz (a:=p) (e:=q) hq (by omega)).mono ?_;rintro _ σ1 rfl;simp only[go_sem];have h:=insertionSort_holds (lt:=ltc cf) hS dd p q hpq (by omega);exact Ae (r:=.tup []) rfl ⟨_,rfl,hF _ h.1 h.2⟩
 simp only[go_sem,f3];refine aIf_by (fun g2=>?_) (fun g2=>?_)
 ·simp only[go_sem,f0,f1,f2,f4]
  refine(Xi hl ho hce hC (σ:=σ.set b (.rows 4 (rw' en dd) false cap)) (d:=dd) Ab hn (A0 hn hs) hdd hsz (a:=p) (e:=q) hq (by omega)).mono ?_;rintro _ σ1 rfl;simp only[go_sem];have h:=heapSort_holds (lt:=ltc cf) hS dd p q hpq (by omega);exact Ae (r:=.tup []) rfl ⟨_,rfl,hF _ h.1 h.2⟩
 simp only[go_sem,f10];refine U2 (fun fr σ'=>∃(lim':Nat) (d1:Array α),lim'≤1000∧PermIn p q dd d1∧σ'=σ.set b (.rows 4 (rw' en d1) false cap)∧fr 0=slv b n cap∧fr 1=int p∧fr 2=int q∧fr 3=int lim'∧fr 4=fnv g∧fr 10=boo wb∧fr 11=boo wp∧fr 12=int (q-p:Nat)) (fun g3=>?_) (fun g3=>?_) ?_
 ·simp only[go_sem]
  exact⟨lim,dd,hlim2,permIn_refl dd p q,rfl,f0,f1,f2,f3,f4,f10,f11⟩
 ·have w2:IntKind.i64.wrap ((lim:Int)-1)=((lim-1:Nat):Int):=by rw[Am (by omega)];omega
  simp only[go_sem,f0,f1,f2,f4];refine(Su hl ho hce (σ:=σ.set b (.rows 4 (rw' en dd) false cap)) (d:=dd) Ab hdd hsz (a:=p) (e:=q) hq (by omega)).mono ?_;rintro _ σ1 rfl;simp only[go_sem,f0,f1,f2,f3,f4,f10,f11,w2];refine⟨lim-1,breakPatterns dd p q,by omega,breakPatterns_holds dd p q hpq (by omega),rfl,rfl⟩
 clear f0 f1 f2 f3 f4 f10 f11 fr hlim2;rintro fr σ' ⟨lim,d1,hlim2,hP1,rfl,f0,f1,f2,f3,f4,f10,f11,f12⟩;have hz1:d1.size=n:=by rw[hP1.1];exact hdd
 have hB1:Below (ltc cf) p q d1:=hB2.perm (by omega) hP1;have hc0:=choosePivot_holds (ltc cf) d1 p q (by omega);simp only[go_sem,f0,f1,f2,f4];refine(T5 hl ho hce hC (σ:=σ.set b (.rows 4 (rw' en d1) false cap)) (d:=d1) Ab hn (A0 hn hs) hz1 hsz (a:=p) (e:=q) hq (by omega)).p ?_;generalize choosePivot (ltc cf) d1 p q=c at hc0⊢;obtain⟨c1,c2⟩:=c;simp only[go_sem,f0,f1,f2,f4];refine C0 (fun fr σ'=>∃(pv:Nat) (h:Int) (d2:Array α),p≤pv∧pv<q∧PermIn p q d1 d2∧σ'=σ.set b (.rows 4 (rw' en d2) false cap)∧fr 0=slv b n cap∧fr 1=int p∧fr 2=int q∧fr 3=int lim∧fr 4=fnv g∧fr 10=boo wb∧fr 11=boo wp∧fr 12=int (q-p:Nat)∧fr 13=int pv∧fr 14=int h) (fun g3=>?_) (fun g3=>?_) ?_
 ·simp only[go_sem,f0,f1,f2,f4]
  refine(Adg hl ho hce (σ:=σ.set b (.rows 4 (rw' en d1) false cap)) (d:=d1) Ab hz1 hsz (a:=p) (e:=q) hq (by omega)).mono ?_;rintro _ σ1 rfl;have hc1:p≤c1:=hc0.1;have hc2:c1<q:=hc0.2;have w3:IntKind.i64.wrap (IntKind.i64.wrap ((q:Int)-1)-IntKind.i64.wrap ((c1:Int)-p))=((q-1-(c1-p):Nat):Int):=by
   rw[Am (x:=(q:Int)-1) (by omega),Am (x:=(c1:Int)-p) (by omega),Am (by omega)];omega
  simp only[go_sem,f0,f1,f2,f3,f4,f10,f11,f12,w3];exact⟨q-1-(c1-p),1,reverseRange d1 p q,by omega,by omega,reverseRange_holds d1 p q hpq (by omega),rfl,rfl,rfl⟩
 ·simp only[go_sem]
  exact⟨c1,Ri c2,d1,hc0.1,hc0.2,permIn_refl d1 p q,rfl,f0,f1,f2,f3,f4,f10,f11,f12,rfl,rfl⟩
 clear f0 f1 f2 f3 f4 f10 f11 f12 fr hc0;rintro fr σ' ⟨pv,h,d2,hp1,hp2,hP2,rfl,f0,f1,f2,f3,f4,f10,f11,f12,f13,f14⟩;have hz2:d2.size=n:=by rw[hP2.1];exact hz1
 have hB3:Below (ltc cf) p q d2:=hB1.perm (by omega) hP2;apply Mk (fun fr σ'=>∃(d3:Array α),PermIn p q d2 d3∧σ'=σ.set b (.rows 4 (rw' en d3) false cap)∧fr 0=slv b n cap∧fr 1=int p∧fr 2=int q∧fr 3=int lim∧fr 4=fnv g∧fr 10=boo wb∧fr 11=boo wp∧fr 12=int (q-p:Nat)∧fr 13=int pv)
 case h1=>
  intro key;cases wb
  ·simp only[go_sem,f10]
   refine key _ _ ?_;exact⟨d2,permIn_refl d2 p q,rfl,f0,f1,f2,f3,f4,f10,f11,f12,f13⟩
  ·cases wp
   ·simp only[go_sem,f10,f11]
    refine key _ _ ?_;exact⟨d2,permIn_refl d2 p q,rfl,f0,f1,f2,f3,f4,f10,f11,f12,f13⟩
   ·simp only[go_sem,f10,f11,f14]
    refine aIf_by (fun g4=>?_) (fun g4=>?_)
    ·simp only[go_sem,f0,f1,f2,f4]
     refine(Nw hl ho hce hC (σ:=σ.set b (.rows 4 (rw' en d2) false cap)) (d:=d2) Ab hn (A0 hn hs) hz2 hsz (a:=p) (e:=q) hq (by omega)).p ?_;have hpi:=partialInsertionSort_holds (lt:=ltc cf) hS d2 p q (by omega) (by omega) hB3;simp only[go_sem];refine aIf_bool (fun g5=>?_) (fun g5=>?_)
     ·simp only[go_sem]
      exact Ae (r:=.tup []) rfl ⟨_,rfl,hF _ (permIn_trans _ _ _ p q (permIn_trans _ _ _ p q hP1 hP2) hpi.1) (hpi.2 g5)⟩
     ·simp only[go_sem]
      refine key _ _ ?_;exact⟨_,hpi.1,rfl,f0,f1,f2,f3,f4,f10,f11,f12,f13⟩
    ·simp only[go_sem]
     refine key _ _ ?_;exact⟨d2,permIn_refl d2 p q,rfl,f0,f1,f2,f3,f4,f10,f11,f12,f13⟩
 case h2=>
  clear f0 f1 f2 f3 f4 f10 f11 f12 f13 f14 fr;rintro fr σ' ⟨d3,hP3,rfl,f0,f1,f2,f3,f4,f10,f11,f12,f13⟩;have hz3:d3.size=n:=by rw[hP3.1];exact hz2
  have hB4:Below (ltc cf) p q d3:=hB3.perm (by omega) hP3;have hF3:∀R,PermIn p q d3 R→SortedIn (ltc cf) p q R→PermIn a e d R∧SortedIn (ltc cf) a e R:=fun R h1 h2=>hF R (permIn_trans _ _ _ p q (permIn_trans _ _ _ p q (permIn_trans _ _ _ p q hP1 hP2) hP3) h1) h2;clear hF hP1 hP2 hP3 hB1 hB2 hB3 hz1 hz2 hdd d1 d2;refine Af [.rd 0 false,.rd 1 false,.rd 2 false,.rd 3 false,.rd 4 false,.rd 5 false,.rd 6 false,.rd 7 false,.rd 8 true,.rd 9 false,.rd 10 false,.rd 11 false,.rd 12 true,.ef 13 [],.rd 14 false,.rd 15 false,.rd 16 false] ?_;by_cases g6:(0:Int)<p
  ·have w5:IntKind.i64.wrap ((p:Int)-1)=((p-1:Nat):Int):=by rw[Am (by omega)];omega
   have q1:=Ax (en:=en) (d:=d3) (j:=p-1) (by omega);have q2:=Ax (en:=en) (d:=d3) (j:=pv) (by omega);simp only[go_sem,f0,f1,f4,f13,decide_eq_true g6,w5,Ab,q1,q2,Bt hl];refine⟨by omega,by omega,by omega,by omega,(hC _ (A0 hn hs) _ _).p ?_⟩;simp only[go_sem];refine aIf_by (fun g7=>?_) (fun g7=>?_)
   ·simp only[go_sem,f0,f1,f2,f4,f13]
    refine(Po hl ho hce hC (σ:=σ.set b (.rows 4 (rw' en d3) false cap)) (d:=d3) Ab hn (A0 hn hs) hz3 hsz (a:=p) (e:=q) (pv:=pv) hq (by omega) (by omega)).p ?_;generalize hx:partition (ltc cf) d3 p q pv=x;obtain⟨mid,ap,d4⟩:=x;obtain⟨g7,g8,hs4,hBa,hBr,hleft,hright⟩:=round_part hS (partition_holds (ltc cf)) hp1 hp2 (by omega) hB4 hx;have v1:IntKind.i64.wrap ((mid:Int)-p)=((mid-p:Nat):Int):=by rw[Am (by omega)];omega
    have v2:IntKind.i64.wrap ((q:Int)-mid)=((q-mid:Nat):Int):=by rw[Am (by omega)];omega
    have v3:IntKind.i64.wrap (((q-p:Nat):Int).tdiv 8)=(((q-p)/8:Nat):Int):=by rw[Int.tdiv_eq_ediv_of_nonneg (by omega),Am (by omega)];omega
    simp only[go_sem,f1,f2,f12,v1,v2,v3];refine aIf_by (fun g9=>?_) (fun g9=>?_)
    ·simp only[go_sem,f0,f1,f2,f3,f4]
     refine(ih (mid-p) (by omega) (σ:=σ.set b (.rows 4 (rw' en d4) false cap)) (d:=d4) (a:=p) (e:=mid) (limit:=lim) (Nat.le_refl _) Ab (A0 hn hs) (by omega) g7 (by omega) hlim2 hBa).mono ?_;rintro _ _ ⟨d5,rfl,l1,l2⟩;obtain⟨hBL,hfin⟩:=hleft _ l1 l2;simp only[go_sem,f0,f2,f3,f4,As mid (by omega)];exact⟨q-(mid+1),by omega,mid+1,q,lim,decide ((((q-p)/8:Nat):Int)≤((mid-p:Nat):Int)),ap,d5,rfl,by omega,by omega,by omega,hlim2,by rw[l1.1];omega,hBL,fun R h1 h2=>(fun hh=>hF3 R hh.1 hh.2) (hfin R h1 h2),rfl,rfl,rfl,rfl,rfl,rfl⟩
    ·simp only[go_sem,f0,f1,f2,f3,f4,As mid (by omega)]
     refine(ih (q-(mid+1)) (by omega) (σ:=σ.set b (.rows 4 (rw' en d4) false cap)) (d:=d4) (a:=mid+1) (e:=q) (limit:=lim) (Nat.le_refl _) Ab (A0 hn hs) (by omega) (by omega) (by omega) hlim2 hBr).mono ?_;rintro _ _ ⟨d5,rfl,l1,l2⟩;obtain⟨hBL,hfin⟩:=hright _ l1 l2;simp only[go_sem,f0,f1,f3,f4];exact⟨mid-p,by omega,p,mid,lim,decide ((((q-p)/8:Nat):Int)≤((q-mid:Nat):Int)),ap,d5,rfl,by omega,by omega,by omega,hlim2,by rw[l1.1];omega,hBL,fun R h1 h2=>(fun hh=>hF3 R hh.1 hh.2) (hfin R h1 h2),rfl,rfl,rfl,rfl,rfl,rfl⟩
   ·simp only[go_sem,f0,f1,f2,f4,f13]
    refine(Qz hl ho hce hC (σ:=σ.set b (.rows 4 (rw' en d3) false cap)) (d:=d3) Ab hn (A0 hn hs) hz3 hsz (a:=p) (e:=q) (pv:=pv) hq (by omega) (by omega)).p ?_;generalize hx:partitionEqual (ltc cf) d3 p q pv=x;obtain⟨mid,d4⟩:=x;obtain⟨g8,g9,hs4,hBr,hfin⟩:=round_eq hS (partitionEqual_holds (ltc cf)) (by omega) hp1 hp2 (by omega) hB4 (by unfold ltc;exact decide_eq_false g7) hx;simp only[go_sem,f0,f2,f3,f4,f10,f11];exact⟨q-mid,by omega,mid,q,lim,wb,wp,d4,rfl,by omega,by omega,by omega,hlim2,by omega,hBr,fun R h1 h2=>(fun hh=>hF3 R hh.1 hh.2) (hfin R h1 h2),rfl,rfl,rfl,rfl,rfl,rfl⟩
  ·simp only[go_sem,f1,decide_eq_false g6]
   simp only[go_sem,f0,f1,f2,f4,f13];refine(Po hl ho hce hC (σ:=σ.set b (.rows 4 (rw' en d3) false cap)) (d:=d3) Ab hn (A0 hn hs) hz3 hsz (a:=p) (e:=q) (pv:=pv) hq (by omega) (by omega)).p ?_;generalize hx:partition (ltc cf) d3 p q pv=x;obtain⟨mid,ap,d4⟩:=x;obtain⟨g7,g8,hs4,hBa,hBr,hleft,hright⟩:=round_part hS (partition_holds (ltc cf)) hp1 hp2 (by omega) hB4 hx;have v1:IntKind.i64.wrap ((mid:Int)-p)=((mid-p:Nat):Int):=by rw[Am (by omega)];omega
   have v2:IntKind.i64.wrap ((q:Int)-mid)=((q-mid:Nat):Int):=by rw[Am (by omega)];omega
   have v3:IntKind.i64.wrap (((q-p:Nat):Int).tdiv 8)=(((q-p)/8:Nat):Int):=by rw[Int.tdiv_eq_ediv_of_nonneg (by omega),Am (by omega)];omega
   simp only[go_sem,f1,f2,f12,v1,v2,v3];refine aIf_by (fun g9=>?_) (fun g9=>?_)
   ·simp only[go_sem,f0,f1,f2,f3,f4]
    refine(ih (mid-p) (by omega) (σ:=σ.set b (.rows 4 (rw' en d4) false cap)) (d:=d4) (a:=p) (e:=mid) (limit:=lim) (Nat.le_refl _) Ab (A0 hn hs) (by omega) g7 (by omega) hlim2 hBa).mono ?_;rintro _ _ ⟨d5,rfl,l1,l2⟩;obtain⟨hBL,hfin⟩:=hleft _ l1 l2;simp only[go_sem,f0,f2,f3,f4,As mid (by omega)];exact⟨q-(mid+1),by omega,mid+1,q,lim,decide ((((q-p)/8:Nat):Int)≤((mid-p:Nat):Int)),ap,d5,rfl,by omega,by omega,by omega,hlim2,by rw[l1.1];omega,hBL,fun R h1 h2=>(fun hh=>hF3 R hh.1 hh.2) (hfin R h1 h2),rfl,rfl,rfl,rfl,rfl,rfl⟩
   ·simp only[go_sem,f0,f1,f2,f3,f4,As mid (by omega)]
    refine(ih (q-(mid+1)) (by omega) (σ:=σ.set b (.rows 4 (rw' en d4) false cap)) (d:=d4) (a:=mid+1) (e:=q) (limit:=lim) (Nat.le_refl _) Ab (A0 hn hs) (by omega) (by omega) (by omega) hlim2 hBr).mono ?_;rintro _ _ ⟨d5,rfl,l1,l2⟩;obtain⟨hBL,hfin⟩:=hright _ l1 l2;simp only[go_sem,f0,f1,f3,f4];exact⟨mid-p,by omega,p,mid,lim,decide ((((q-p)/8:Nat):Int)≤((q-mid:Nat):Int)),ap,d5,rfl,by omega,by omega,by omega,hlim2,by rw[l1.1];omega,hBL,fun R h1 h2=>(fun hh=>hF3 R hh.1 hh.2) (hfin R h1 h2),rfl,rfl,rfl,rfl,rfl,rfl⟩
abbrev Amm:=Tryz.func113
theorem sort_at{σ:St}{d:Array α}(hb:σ b=some (.rows 4 (rw' en d) false cap))(hs:∀x o,β x=some o→σ x=some o)(hd:d.size=n):AT Tryz.prog 113 [slv b n cap,fnv g] σ fun _ σ'=>∃d',σ'=σ.set b (.rows 4 (rw' en d') false cap)∧d'.toList.Perm d.toList∧SortedIn (ltc cf) 0 n d':=by
 exact rqq18
end
end Go.Proofs.YtmifmncabejffaaGreat.F
namespace Go.Proofs.YtmifmncabejffaaGreat
open Go Go.Av
structure FS where
 f:Fa
 sm:f.Sm
instance:Inhabited FS:=⟨⟨⟨emp,emp,emp,[]⟩,by simp[Fa.Sm]⟩⟩
def FS.en(x:FS):List AV:=x.f.cs
def FS.cf(x y:FS):Int:=Ai x.f y.f
def FS.eq(x y:FS):Bool:=decide (x.f=y.f)
theorem FS.swo:Go.Sort.SWO (ltc FS.cf) where
 irrefl x:=Ah.swo.irrefl x.f
 trans x y z:=Ah.swo.trans x.f y.f z.f
 ntrans x y z:=Ah.swo.ntrans x.f y.f z.f
section
variable{σ:St}
theorem FS.ord_at{β:St}(σ':St)(hs:∀x o,β x=some o→σ' x=some o)(x y:FS):AT Tryz.prog 112 [.agg x.en,.agg y.en] σ' fun r σ''=>r=int (FS.cf x y)∧σ''=σ':=
 I5 x.f y.f x.sm y.sm
theorem FS.eq_at{β:St}(σ':St)(hs:∀x o,β x=some o→σ' x=some o)(x y:FS):AT Tryz.prog 115 [.agg x.en,.agg y.en] σ' fun r σ''=>r=boo (FS.eq x y)∧σ''=σ':=by
 refine AT.ob Tryz.func115 rfl ?_;have ex:x.en=x.f.cs:=rfl;have ey:y.en=y.f.cs:=rfl;simp only[go_sem,ex,ey];refine Ctx.nil.alloc fun p σ1 c1=>?_;simp only[go_sem,ex,ey];refine c1.alloc fun q σ2 c2=>?_;simp only[go_sem,c2.g1];refine(I5 x.f y.f x.sm y.sm).p ?_;simp only[go_sem];exact Ad (r:=boo _) rfl _ σ' (c2.view _) ⟨by unfold FS.eq;rw[decide_eq_decide.2 (Ah.zero x.f y.f)],rfl⟩
theorem FS.done{d:Array FS}{out:List Fa}(hp:(d.toList.map FS.f).Perm out)(hs:Go.Sort.SortedIn (ltc FS.cf) 0 d.size d):(Gm FS.eq d.toList).map FS.f=Aw Ai [] out:=by
 rw[Zc (e:=FS.eq) (f:=FS.f) (e':=fun a b=>decide (a=b)) (fun x y=>by unfold FS.eq;simp) (fun x y=>by simp)];refine S2 Ah (fun x y=>by simp) hp ?_ (.refl _);rw[List.pairwise_map];exact Wa (c:=FS.cf) (fun x y=>Ah.anti x.f y.f) hs
theorem Aco(g:Nat):AT Tryz.prog 214 [A4,int 0,int 0,fnv g] σ fun _ σ'=>σ'=σ:=by
 refine AT.ob Tryz.func214 rfl ?_;have w:IntKind.i64.wrap (0+1)=1:=by rw[Am (by omega)];rfl
 simp only[go_sem,Aa,w];refine Jj 1 ?_;simp only[go_sem,Aa];exact Ae (r:=.tup []) rfl rfl
theorem Ac8(g:Nat)(lim:Nat):AT Tryz.prog 171 [A4,int 0,int 0,int lim,fnv g] σ fun _ σ'=>σ'=σ:=by
 refine AT.ob Tryz.func171 rfl ?_;have w:IntKind.i64.wrap (0-0)=0:=by rw[Am (by omega)];rfl
 simp only[go_sem,Aa];refine Jj 1 ?_;simp only[go_sem,Aa,w];refine(Aco g).mono ?_;rintro _ _ rfl;simp only[go_sem,Aa];exact Ae (r:=.tup []) rfl rfl
theorem Aa8(g:Nat):AT Tryz.prog 113 [A4,fnv g] σ fun _ σ'=>σ'=σ:=by
 refine AT.ob Tryz.func113 rfl ?_;have w1:IntKind.u64.wrap (0:Int)=(0:Int):=by simp[IntKind.wrap,IntKind.signed,IntKind.bits]
 simp only[go_sem,w1];refine(Xm (x:=0) (by omega)).p ?_;simp only[go_sem];refine(Ac8 g _).mono ?_;rintro _ _ rfl;simp only[go_sem];exact Ae (r:=.tup []) rfl rfl
theorem Y9(g:Nat):AT Tryz.prog 114 [A4,fnv g] σ fun r σ'=>r=A4∧σ'=σ:=by
 refine AT.ob Tryz.func114 rfl ?_;have d:decide ((0:Int)<2)=true:=rfl;simp only[go_sem,d];exact Ae (r:=A4) rfl ⟨rfl,rfl⟩
def Made(σ σ':St)(v:AV)(l:List Fa):Prop:=Ow 4 σ' v (faC l)∧(∀x o,σ x=some o→σ' x=some o)∧∀x,Own v x→σ x=none
theorem Made.grow{σ σ':St}{v:AV}{l:List Fa}(h:Made σ σ' v l):Cg σ σ' v:=fun y o hy=>⟨h.2.1 y o hy,fun ho=>by rw[h.2.2 y ho]at hy;cases hy⟩
theorem Made.view{σ σ':St}{v:AV}{l:List Fa}(h:Made σ σ' v l):Hf σ' v σ (.sl 4 (faC l)):=Gz h.1.lat h.grow
theorem Ae0:∀(l:List Fa),(∀f∈l,f.Sm)→∃L:List FS,L.map FS.f=l
 | [],_=>⟨[],rfl⟩
 |f::l,h=>by
  obtain⟨L,hL⟩:=Ae0 l fun g hg=>h g (by simp[hg]);exact⟨⟨f,h f (by simp)⟩::L,by rw[List.map_cons,hL]⟩
theorem At7(L:List FS):L.map FS.en=faC (L.map FS.f):=by
 unfold faC;rw[List.map_map];rfl
theorem Kq{v0:AV}(l:List Fa)(h0:Rd 4 σ v0 (faC l))(hl:l.length≤1000000000000)(hls:∀f∈l,f.Sm):AT Tryz.prog 59 [v0] σ fun v σ'=>Made σ σ' v (Aw Ai [] l):=by
 refine AT.ob Tryz.func59 rfl ?_;simp only[go_sem,Aa,h0.len,Aj];refine⟨fun m fr σ'=>∃(i:Nat) (lv:AV) (es:List (List AV)),m=l.length-i∧i≤l.length∧CP σ σ' lv es (l.take i)∧Ow 4 σ' lv es∧lv≠.fsl 4 []∧fr 3=lv∧fr 6=v0∧fr 7=int l.length∧fr 8=int i,⟨_,0,A4,[],rfl,by omega,⟨fun _ _ h=>h,.none,fun x hx=>absurd hx B4,by simp,fun j hj=>by simp at hj⟩,.inl ⟨rfl,.inl rfl⟩,by simp,rfl,rfl,rfl,rfl⟩,?_⟩;rintro m fr σ1 ⟨i,lv,es,rfl,hi,⟨p1,p2,p3,p4,p5⟩,hO,hnf,f3,f6,f7,f8⟩;simp only[go_sem,f7,f8];refine aIf_by (fun hlt=>?_) (fun hlt=>?_)
 ·have hil:i<l.length:=by omega
  have hsm:=hls _ (List.getElem_mem hil);unfold Fa.Sm at hsm;simp only[go_sem,Aa,f6,f8];refine(h0.keep p1).elem (by omega) (by rw[Aj];omega) fun e0 he0=>?_;simp only[go_sem,Aa];refine he0.load (by decide) (by rw[Int.toNat_natCast,Aq hil];exact Nat.le_refl 4) ?_;simp only[go_sem,Aa,Aq hil];refine Ctx.nil.alloc fun t5 σ2 c1=>?_;obtain⟨σ3,e3,c2⟩:=c1.abs 0 rfl (.cells l[i].cs);simp only[go_sem,Aa,c1.g0,e3,c2.g0];refine(Qe l[i].ar hsm .sl).mono ?_;rintro la σ4 ⟨h1,G1⟩;have k4:=G1 _ _ c2.g0;simp only[go_sem,Aa,k4.1,h1.lat.one,h1.lat.cells];have esp:Az l[i].cs 3 [la]=faX l[i] la:=rfl;have eal:(faX l[i] la).all AV.one=true:=Ol _ h1.lat.one;obtain⟨σ5,e5⟩:∃s,σ4.set t5 (.cells (faX l[i] la))=s:=⟨_,rfl⟩;have k5:σ5 t5=some (.cells (faX l[i] la)):=by rw[←e5];exact Ab
  have s5:∀y o,σ1 y=some o→σ5 y=some o:=fun y o hy=>by
   rw[←e5,Ag fun e=>by
    have:=c2.f0;rw[←e,hy]at this;cases this]
   exact(G1 _ _ (c2.sub _ _ hy)).1
  simp only[go_sem,Aa,esp,e5,k5,eal,f3];have p2':=p2.keep (σ':=σ5) fun y o hy _=>s5 y o hy;refine Ap (ys:=[faX l[i] la]) (by rfl) (by decide) (by decide) (by decide) (Ow.of_app p2' (by simp) (by rw[p4,List.length_take];simp only[List.length_cons,List.length_nil];omega) fun lv' σ6 h2 g2 _=>?_);simp only[go_sem,Aa,f6,f7,f8,As i (by omega)];have nol:∀y,σ y≠none→¬Own lv y:=fun y hy ho=>hy (p3 y ho);have n3:∀{q:Nat} {es':List (List AV)} {cap:Nat} {y:Nat},q≠4→σ1 y=some (.rows q es' false cap)→¬Own lv y:=fun hq hy ho=>by
   obtain⟨c,hc⟩:=p2.own_rows ho;rw[hc]at hy;injection hy with hy;injection hy with hy;exact hq hy.symm
  have h5:LAt 3 σ5 la (cnC l[i].ar):=h1.lat.keep fun y o hy ho=>by
   rw[←e5,Ag fun e=>by subst e;exact k4.2 ho];exact hy
  have hla6:LAt 3 σ6 la (cnC l[i].ar):=h5.keep fun y o hy ho=>(g2 y o hy fun ho'=>by
   obtain⟨c,hc⟩:=p2'.own_rows ho';obtain⟨c',hc'⟩:=h5.own_rows ho;rw[hc]at hc';cases hc').1
  refine⟨l.length-(i+1),by omega,i+1,lv',es++[faX l[i] la],rfl,by omega,⟨fun y o hy=>(g2 _ _ (s5 _ _ (p1 y o hy)) (nol y (by rw[hy];simp))).1,h2.lat,fun y ho=>?_,by simp[p4];omega,fun j hj=>?_⟩,h2,?_,rfl,rfl⟩
  ·cases hy:σ y with
   |none=>rfl
   |some o=>exact absurd ho (g2 _ _ (s5 _ _ (p1 y o hy)) (nol y (by rw[hy];simp))).2
  ·by_cases e:j<i
   ·have hj':j<(l.take i).length:=by simp;omega
    obtain⟨a,a1,a2,a3⟩:=p5 j hj';refine⟨a,?_,?_,a3⟩
    ·rw[List.getD_eq_getElem?_getD,List.getElem?_append_left (by rw[p4];exact hj'),←List.getD_eq_getElem?_getD,a1]
     simp
    ·have:(l.take (i+1))[j]=(l.take i)[j]:=by simp
     rw[this];refine a2.keepO fun y o hy ho=>?_;obtain⟨c,hc⟩:=a2.own_rows ho;exact(g2 _ _ (s5 _ _ hy) (n3 (by decide) hc)).1
   ·have e2:j=i:=by simp at hj;omega
    subst e2;have e3:(l.take (j+1))[j]=l[j]:=by simp
    rw[e3];refine⟨la,?_,.of hla6,fun y ho=>?_⟩
    ·have:es.length=j:=by rw[p4];simp;omega
     rw[List.getD_eq_getElem?_getD,List.getElem?_append_right (by omega),this];simp
    ·exact Df (fun z o hz=>c2.sub _ _ (p1 z o hz)) (G1.own ho)
  ·rcases h2 with⟨e,_⟩|⟨b,c,rfl,_⟩
   ·simp at e
   ·intro e;cases e
 ·rw[List.take_of_length_le (by omega)]at p4 p5
  have hcp:CP σ σ1 lv es l:=⟨p1,p2,p3,p4,p5⟩;simp only[go_sem,Aa,f3];rcases hO with⟨rfl,hlo|hlo⟩|⟨b,cap,rfl,hcap,hb⟩
  ·subst hlo
   refine(Aa8 _).mono ?_;rintro _ σ1 rfl;simp only[go_sem,Aa,f3];refine(Y9 _).p ?_;have e0:l=[]:=List.eq_nil_of_length_eq_zero (by simpa using p4.symm);simp only[go_sem,Aa];exact Ae (r:=A4) rfl ⟨by rw[e0];exact .inl ⟨rfl,.inl rfl⟩,p1,fun x hx=>absurd hx B4⟩
  ·exact absurd hlo hnf
  ·have hbn:σ b=none:=p3 b (B6.2 rfl)
   obtain⟨L,hL1⟩:=Ae0 l hls;have hel:es.length=L.length:=by rw[p4,←hL1,List.length_map]
   have hLl:L.length≤1000000000000:=by rw[←hL1,List.length_map]at hl;exact hl
   have hSV:SV σ1 (σ.set b (.rows 4 (rw' FS.en L.toArray) false cap)):=by
    refine Ks hb ⟨rfl,rfl,rfl,by rw[Asy,hel];simp,fun j hj=>?_⟩ fun x p hne hx=>p1 x p hx;have hjl:j<l.length:=by omega
    have hjL:j<L.length:=by omega
    obtain⟨a,a1,a2,a3⟩:=p5 j hjl;have e1:(rw' FS.en L.toArray).getD j []=l[j].cs:=by
     have:(L.map FS.f)[j]'(by simpa using hjL)=l[j]:=List.getElem_of_eq hL1 _;rw[←this];simp[rw',List.getD_eq_getElem?_getD,hjL,FS.en]
    rw[a1,e1];refine vws_same (vws_same (vws_same (vws_cons (a2.vw fun x hx=>?_) By)));rw[Ag fun e=>?_]
    ·exact a3 x hx
    ·subst e
     obtain⟨c,hc⟩:=a2.own_rows hx;rw[hb]at hc;cases hc
   refine AT.pre (args':=[slv b es.length cap,fnv 112]) ((F.sort_at (fun _=>rfl) (fun _=>rfl) Nat.add_zero FS.ord_at hbn (n:=es.length) (by omega) FS.swo Ab (A0 hbn fun _ _ h=>h) (by simpa using hel.symm)).mono ?_) (by kernel_rfl) hSV (Bu _);rintro _ _ ⟨d',rfl,hp,hsd⟩;rw[Ct];have hdl:es.length=d'.toList.length:=by rw[hp.length_eq,hel]
   simp only[go_sem,Aa,f3];rw[hdl];refine(F.compact_at (fun _=>rfl) (fun _=>rfl) FS.eq_at hbn (l:=d'.toList) Ab (A0 hbn fun _ _ h=>h) (by omega) (by omega)).p ?_;rw[Ct];simp only[go_sem,Aa];have hsz:d'.size=es.length:=by simpa using hdl.symm
   have hd:=FS.done (d:=d') (out:=l) (by rw[←hL1];exact hp.map FS.f) (by rw[hsz];exact hsd);have hcl:=S1 FS.eq d'.toList;refine Ae (r:=slv b (Gm FS.eq d'.toList).length cap) rfl ⟨.inr ⟨b,cap,by rw[Aj,←hd,List.length_map],by rw[Aj,←hd,List.length_map];omega,by rw[Ab,At7,hd]⟩,A0 hbn fun _ _ h=>h,fun x hx=>by rw[B6.1 hx];exact hbn⟩
end
def Eh(t:Tm)(env:List Bi):Option ByteArray:=match C6 t env with
 |some c=>if c=nmC c.s then some c.s else none
 |none=>none
def Dz:List Tm→List Bi→Option (List Cn)
 | [],_=>some []
 |t::l,env=>match C6 t env with
  |some c=>(Dz l env).map (c::·)
  |none=>none
def C8(r:Rl)(env:List Bi):Option Fa:=(Eh r.ho env).bind fun b=>(Eh (orT r.at' r.ho) env).bind fun a=>(Dz r.ar env).map fun args=>⟨a,b,r.nm,args⟩
def lvE(ho:Tm)(m:List Fa):List Li→List Bi→List (List Bi)
 | [],env=>[env]
 |l::ls,env=>m.flatMap fun x=>match Be ho l x env with
  |some e=>lvE ho m ls e
  |none=>[]
def hdN(names:List ByteArray)(r:Rl)(env:List Bi):Option Fa:=match C8 r env with
 |some f=>if f.at'∈names then some f else none
 |none=>none
def Pj(names:List ByteArray)(m:List Fa)(r:Rl)(h:ByteArray):List Fa:=match Bd r.ho (nmC h) []with
 |some env=>(lvE r.ho m r.bo env).filterMap (hdN names r)
 |none=>[]
def Aar(homes names:List ByteArray)(rs:List Rl)(m:List Fa):List Fa:=rs.flatMap fun r=>homes.flatMap fun h=>Pj names m r h
def Ls(homes names:List ByteArray)(rs:List Rl)(m:List Fa):List Fa:=Aw Ai [] (Aar homes names rs m)
def cntH(m:List Fa)(r:Rl)(h:ByteArray):Nat:=match Bd r.ho (nmC h) []with
 |some env=>(lvE r.ho m r.bo env).length
 |none=>0
def cntL(homes:List ByteArray)(rs:List Rl)(m:List Fa):Nat:=((rs.map fun r=>(homes.map fun h=>cntH m r h).sum).sum)
def frE(names:List ByteArray)(m:List Fa)(r:Rl):List Li→List Bi→List Fa×Nat→List Fa×Nat
 | [],env,s=>(match hdN names r env with
  |some f=>A1 Ai f s.1
  |none=>s.1,s.2)
 |l::ls,env,s=>m.foldl (fun s x=>if 60000<s.2 then s else match Be r.ho l x env with
  |some e=>frE names m r ls e (s.1,s.2+1)
  |none=>(s.1,s.2+1)) s
def stE(names:List ByteArray)(m:List Fa)(r:Rl)(l:Li)(ls:List Li)(env:List Bi)(s:List Fa×Nat)(x:Fa):List Fa×Nat:=if 60000<s.2 then s else match Be r.ho l x env with
  |some e=>frE names m r ls e (s.1,s.2+1)
  |none=>(s.1,s.2+1)
theorem Lh{names:List ByteArray}{m:List Fa}{r:Rl}{l:Li}{ls:List Li}{env:List Bi}{s:List Fa×Nat}:frE names m r (l::ls) env s=m.foldl (stE names m r l ls env) s:=rfl
def Gw(names:List ByteArray)(m:List Fa)(r:Rl)(s:List Fa×Nat)(h:ByteArray):List Fa×Nat:=match Bd r.ho (nmC h) []with
 |some env=>frE names m r r.bo env s
 |none=>s
def Lr(homes names:List ByteArray)(m:List Fa)(s:List Fa×Nat)(r:Rl):List Fa×Nat:=homes.foldl (Gw names m r) s
def Ir(homes names:List ByteArray)(rs:List Rl)(m:List Fa)(d:Nat):List Fa×Nat:=rs.foldl (Lr homes names m) ([],d)
theorem Wc{names:List ByteArray}{m:List Fa}{r:Rl}{l:Li}{ls:List Li}{env:List Bi}{s:List Fa×Nat}(h:60000<s.2):∀k:List Fa,k.foldl (stE names m r l ls env) s=s
 | []=>rfl
 |x::k=>by rw[List.foldl_cons];unfold stE;rw[if_pos h];exact Wc h k
theorem foldl_inv{α β:Type}{f:β→α→β}{p:β→Prop}(hf:∀s x,p s→p (f s x)):∀(l:List α) (s:β),p s→p (l.foldl f s)
 | [],s,h=>h
 |x::l,s,h=>foldl_inv hf l _ (hf s x h)
theorem Acg{names:List ByteArray}{m:List Fa}{r:Rl}:∀(ls:List Li) (env:List Bi) (s:List Fa×Nat),s.2≤(frE names m r ls env s).2
 | [],env,s=>Nat.le_refl _
 |l::ls,env,s=>by
  rw[Lh];refine foldl_inv (p:=fun t=>s.2≤t.2) (fun t x ht=>?_) m s (Nat.le_refl _);unfold stE;split
  ·exact ht
  ·split
   ·exact Nat.le_trans (Nat.le_succ_of_le ht) (Acg ls _ (t.1,t.2+1))
   ·exact Nat.le_succ_of_le ht
theorem Ajw{names:List ByteArray}{m:List Fa}{r:Rl}:∀(ls:List Li) (env:List Bi) (s:List Fa×Nat),(frE names m r ls env s).2≤60000→
  (frE names m r ls env s).1=Aw Ai s.1 ((lvE r.ho m ls env).filterMap (hdN names r))∧(lvE r.ho m ls env).length+s.2≤(frE names m r ls env s).2+(if ls=[]then 1 else 0)
 | [],env,s,h=>by
  refine⟨?_,by simp[lvE,frE];omega⟩
  show(match hdN names r env with
   |some f=>A1 Ai f s.1
   |none=>s.1)=Aw Ai s.1 (([env]:List (List Bi)).filterMap (hdN names r))
  cases hh:hdN names r env with
  |none=>simp[hh,Aw]
  |some f=>simp[hh,Aw]
 |l::ls,env,s,h=>by
  rw[if_neg (by simp),Lh]at*
  have key:∀(k:List Fa) (s:List Fa×Nat),(k.foldl (stE names m r l ls env) s).2≤60000→
    (k.foldl (stE names m r l ls env) s).1=Aw Ai s.1 ((k.flatMap fun x=>match Be r.ho l x env with
     |some e=>lvE r.ho m ls e
     |none=>[]).filterMap (hdN names r))∧(k.flatMap fun x=>match Be r.ho l x env with
     |some e=>lvE r.ho m ls e
     |none=>[]).length+s.2≤(k.foldl (stE names m r l ls env) s).2:=by
   intro k
   induction k with
   |nil=>exact fun s h=>⟨rfl,by simp⟩
   |cons x k ih=>
    intro s h;rw[List.foldl_cons]at h⊢;rw[List.flatMap_cons,List.filterMap_append,Ef,List.length_append];have hm:(stE names m r l ls env s x).2≤(k.foldl (stE names m r l ls env) (stE names m r l ls env s x)).2:=
     foldl_inv (p:=fun t:List Fa×Nat=>(stE names m r l ls env s x).2≤t.2) (fun t y ht=>by
      have hh:t.2≤(stE names m r l ls env t y).2:=by
       unfold stE;split
       ·exact Nat.le_refl _
       ·split
        ·exact Nat.le_trans (Nat.le_succ _) (Acg ls _ (t.1,t.2+1))
        ·exact Nat.le_succ _
      exact Nat.le_trans ht hh) k _ (Nat.le_refl _)
    obtain⟨i1,i2⟩:=ih _ h;rw[i1];have hs:¬60000<s.2:=fun hs=>by
     have h1:(stE names m r l ls env s x).2=s.2:=by unfold stE;rw[if_pos hs]
     omega
    cases hx:Be r.ho l x env with
    |none=>
     have e:stE names m r l ls env s x=(s.1,s.2+1):=by unfold stE;rw[if_neg hs,hx]
     rw[e]at i2 hm⊢;exact⟨rfl,by simp only[List.length_nil]at i2⊢;omega⟩
    |some e'=>
     have e:stE names m r l ls env s x=frE names m r ls e' (s.1,s.2+1):=by unfold stE;rw[if_neg hs,hx]
     rw[e]at i2 hm h⊢;obtain⟨j1,j2⟩:=Ajw (names:=names) (m:=m) (r:=r) ls e' (s.1,s.2+1) (by omega);refine⟨by rw[j1],?_⟩;split at j2<;>simp only at j2⊢ <;>omega
  exact key m s h
theorem Acf{names:List ByteArray}{m:List Fa}{r:Rl}:∀(ls:List Li) (env:List Bi) (s:List Fa×Nat) (c:Nat),s.1.length≤s.2+c→s.2≤60001→(frE names m r ls env s).1.length≤(frE names m r ls env s).2+(c+1)∧(frE names m r ls env s).2≤60001
 | [],env,s,c,h1,h2=>by
  refine⟨?_,h2⟩
  show(match hdN names r env with
   |some f=>A1 Ai f s.1
   |none=>s.1).length≤s.2+(c+1)
  split
  ·exact Nat.le_trans I9 (by omega)
  ·omega
 |l::ls,env,s,c,h1,h2=>by
  rw[Lh];refine foldl_inv (p:=fun t=>t.1.length≤t.2+(c+1)∧t.2≤60001) (fun t x ht=>?_) m s ⟨by omega,h2⟩;unfold stE;split
  ·exact ht
  ·split
   ·exact Acf ls _ (t.1,t.2+1) c (by simp only;omega) (by simp only;omega)
   ·exact⟨by simp only;omega,by simp only;omega⟩
section
variable{σ:St}
theorem Wl{t:Tm}{env:List Bi}(h:t= .zero):C6 t env=none:=by unfold C6;rw[if_pos h]
theorem Us{t:Tm}{env:List Bi}(h:¬t= .zero)(h1:t.v=emp):C6 t env=some t.val:=by unfold C6;rw[if_neg h,if_pos h1]
theorem Pz{t:Tm}{env:List Bi}(h:¬t= .zero)(h1:¬t.v=emp):C6 t env=Ex env t.v:=by unfold C6;rw[if_neg h,if_neg h1]
theorem Uu(t:Tm)(env:List Bi)(hl:env.length≤1000000000000):AT Tryz.prog 156 [.agg t.cs,.sl 4 (biC env)] σ fun r σ'=>r=Pq (C6 t env)∧σ'=σ:=by
 refine AT.ob Tryz.func156 rfl ?_;simp only[go_sem];refine Ctx.nil.alloc fun p σ1 c1=>?_;simp only[go_sem];refine c1.alloc fun q σ2 c2=>?_;simp only[go_sem,c2.g1];refine Abi ?_;simp only[go_sem];refine aIf_by (fun h=>?_) (fun h=>?_)
 ·simp only[go_sem,c2.g1]
  exact D5 σ (Pq none) rfl Ab tk86 rfl rfl ((c2.upd 0 rfl).view _) ⟨by rw[Wl h],rfl⟩
 ·simp only[go_sem,c2.g1]
  refine aIf_by (fun h1=>?_) (fun h1=>?_)
  ·simp only[go_sem,c2.g1]
   exact D5 σ (Pq (some t.val)) rfl Ab tk86 rfl rfl ((c2.upd 0 rfl).view _) ⟨by rw[Us h h1],rfl⟩
  ·simp only[go_sem]
   refine(Asl env hl c2.g1.1.2).mono ?_;rintro _ σ' ⟨rfl,⟨i,hi,rfl,hI⟩|⟨rfl,hI⟩⟩
   ·have g:decide ((i:Int)<0)=false:=decide_eq_false (by omega)
    simp only[go_sem,g];simp only[go_sem,c2.g1,Rw hi];refine⟨by omega,?_⟩;exact D5 σ (Pq (some env[i].c)) rfl Ab tk86 rfl rfl ((c2.upd 0 rfl).view _) ⟨by rw[Pz h h1,hI],rfl⟩
   ·have g:decide ((-1:Int)<0)=true:=rfl
    simp only[go_sem,g];simp only[go_sem,c2.g1];exact D5 σ (Pq none) rfl Ab tk86 rfl rfl ((c2.upd 0 rfl).view _) ⟨by rw[Pz h h1,hI],rfl⟩
theorem Q5(t:Tm)(env:List Bi)(hl:env.length≤1000000000000):AT Tryz.prog 192 [.agg t.cs,.sl 4 (biC env)] σ fun r σ'=>r=Pq (C6 t env)∧σ'=σ:=by
 refine AT.ob Tryz.func192 rfl ?_;simp only[go_sem];refine Ctx.nil.alloc fun p σ1 c1=>?_;simp only[go_sem];refine c1.alloc fun q σ2 c2=>?_;simp only[go_sem,c2.g1];refine(Pg t).p ?_;simp only[go_sem];refine aIf_by (fun h=>?_) (fun h=>?_)
 ·simp only[go_sem,c2.g1]
  exact D5 σ (Pq none) rfl Ab tk86 rfl rfl ((c2.upd 0 rfl).view _) ⟨by rw[Wl h],rfl⟩
 ·simp only[go_sem,c2.g1]
  refine aIf_by (fun h1=>?_) (fun h1=>?_)
  ·simp only[go_sem,c2.g1]
   exact D5 σ (Pq (some t.val)) rfl Ab tk86 rfl rfl ((c2.upd 0 rfl).view _) ⟨by rw[Us h h1],rfl⟩
  ·simp only[go_sem,Aa]
   refine⟨fun m fr σ'=>∃i:Nat,m=env.length-i∧i≤env.length∧σ'=σ2∧Ex (env.drop i) t.v=Ex env t.v∧fr 1= .sl 4 (biC env)∧fr 2=ptr p∧fr 4=ptr q∧fr 6=int i,⟨_,0,rfl,by omega,rfl,rfl,rfl,rfl,rfl,rfl⟩,?_⟩;rintro m fr σ' ⟨i,rfl,hi,rfl,hI,f1,f2,f4,f6⟩;simp only[go_sem,f1,f6];refine aIf_by (fun hlt=>?_) (fun hlt=>?_)
   ·have hil:i<env.length:=by omega
    rw[List.drop_eq_getElem_cons hil]at hI;have e2:Ex (env[i]::env.drop (i+1)) t.v=if env[i].v=t.v then some env[i].c else Ex (env.drop (i+1)) t.v:=rfl
    rw[e2]at hI;simp only[go_sem,Aa];refine Af [.rd 0 false,.rd 1 false,.rd 2 false,.rd 3 false,.rd 4 true,.rd 5 false,.rd 6 true,.rd 7 false] ?_;simp only[go_sem,Aa,f1,f2,f6,c2.g1,Rw hil];refine⟨by omega,aIf_by (fun h0=>?_) (fun h0=>?_)⟩
    ·rw[if_pos h0]at hI
     simp only[go_sem,f1,f2,f4,f6,c2.g1,Rw hil];refine⟨by omega,?_⟩;exact D5 σ (Pq (some env[i].c)) f4 Ab tk86 rfl rfl ((c2.upd 0 rfl).view _) ⟨by rw[Pz h h1,←hI],rfl⟩
    ·rw[if_neg h0]at hI
     simp only[go_sem,f1,f2,f4,f6,As i (by omega)];exact⟨env.length-(i+1),by omega,i+1,rfl,by omega,hI,rfl⟩
   ·rw[List.drop_of_length_le (by omega)]at hI
    simp only[go_sem,f4,c2.g1];exact D5 σ (Pq none) f4 Ab tk86 rfl rfl ((c2.upd 0 rfl).view _) ⟨by rw[Pz h h1,←hI];rfl,rfl⟩
theorem U6(env:List Bi)(hl:env.length≤1000000000000):AT Tryz.prog 157 [.sl 4 (biC env)] σ fun r σ'=>LAt 4 σ' r (biC env)∧Cg σ σ' r:=by
 refine AT.ob Tryz.func157 rfl ?_;simp only[go_sem];by_cases he:biC env=[]
 ·refine⟨fun h=>absurd he h,fun _ b=>?_⟩
  refine aIf_bool (fun _=>?_) (fun _=>?_)
  ·simp only[go_sem]
   exact Ae (r:=A4) rfl ⟨by rw[he];exact .none,.nil⟩
  ·simp only[go_sem]
   refine Ap (ys:=biC env) (by simp[src]) (by decide) (by decide) (by decide) (LAt.full.app (by rw[N7];simp only[List.length_nil];omega) fun lv σ1 h1 h2=>?_);simp only[go_sem];exact Ae (r:=lv) rfl ⟨h1,fun y p hy=>h2 y p hy A3⟩
 ·refine⟨fun _=>?_,fun h=>absurd h he⟩
  refine Ap (ys:=biC env) (by simp[src]) (by decide) (by decide) (by decide) (LAt.full.app (by rw[N7];simp only[List.length_nil];omega) fun lv σ1 h1 h2=>?_);simp only[go_sem];exact Ae (r:=lv) rfl ⟨h1,fun y p hy=>h2 y p hy A3⟩
end
section
variable{σ:St}{K:AV→Prop}
@[go_sem] theorem Ay0{o:Option Cn}:Hp (Pq o) 0 K=K (.agg (o.getD .zero).cs):=by simp[Pq,Hp]
@[go_sem] theorem Ay1{o:Option Cn}:Hp (Pq o) 1 K=K (boo o.isSome):=by simp[Pq,Hp]
@[go_sem] theorem Ayy{o:Option (List Bi)}:Hp (I1 o) 0 K=K (.sl 4 (biC (o.getD []))):=by simp[I1,Hp]
@[go_sem] theorem Ayz{o:Option (List Bi)}:Hp (I1 o) 1 K=K (boo o.isSome):=by simp[I1,Hp]
theorem Un{t:Tm}{c:Cn}{env:List Bi}(h:C6 t env=none)(h1:t.v=emp):Bd t c env=none:=by unfold Bd;rw[h];simp only;rw[if_pos h1]
theorem Uo{t:Tm}{c:Cn}{env:List Bi}(h:C6 t env=none)(h1:¬t.v=emp):Bd t c env=some (env++[⟨t.v,c⟩]):=by unfold Bd;rw[h];simp only;rw[if_neg h1]
theorem Up{t:Tm}{c x:Cn}{env:List Bi}(h:C6 t env=some x)(h1:x=c):Bd t c env=some env:=by unfold Bd;rw[h];simp only;rw[if_pos h1]
theorem Uq{t:Tm}{c x:Cn}{env:List Bi}(h:C6 t env=some x)(h1:¬x=c):Bd t c env=none:=by unfold Bd;rw[h];simp only;rw[if_neg h1]
theorem L5(t:Tm)(c:Cn)(env:List Bi)(hl:env.length≤1000000):AT Tryz.prog 99 [.agg t.cs,.agg c.cs,.sl 4 (biC env)] σ fun r σ'=>r=I1 (Bd t c env)∧σ'=σ:=by
 refine AT.ob Tryz.func99 rfl ?_;simp only[go_sem];refine Ctx.nil.alloc fun p σ1 c1=>?_;simp only[go_sem];refine c1.alloc fun q σ2 c2=>?_;simp only[go_sem,c2.g1];refine(Uu t env (by omega)).p ?_;simp only[go_sem];refine c2.alloc fun r σ3 c3=>?_;cases hv:C6 t env with
 |none=>
  obtain⟨σ4,e4,c4⟩:=c3.abs 0 rfl (.cells ((none:Option Cn).getD .zero).cs);simp only[go_sem,c3.g2,e4,c4.g2];refine aIf_by (fun h1=>?_) (fun h1=>?_)
  ·simp only[go_sem]
   exact Ad (r:=.tup [A4,boo false]) rfl (I1 none) σ (Gh c4.sub _) ⟨by rw[Un hv h1],rfl⟩
  ·simp only[go_sem]
   refine Af [.rd 0 false,.rd 2 false,.rd 3 true,.rd 4 true,.rd 5 false,.rd 6 false,.ef 1 [3,4],.ef 7 [],.rd 8 false,.rd 9 false] ?_;simp only[go_sem,c4.g2];refine(U6 env (by omega)).mono ?_;rintro lv σ5 ⟨hL,hG⟩;have c5:=c4.more hG.sub;simp only[go_sem,c5.g2];refine Ap (ys:=[[str t.v,boo c.b,int c.n,str c.s]]) (by rfl) (by decide) (by decide) (by decide) (hL.app (by rw[N7];simp only[List.length_cons,List.length_nil];omega) fun lv' σ6 h1' h2'=>?_);simp only[go_sem];have e:biC env++[[str t.v,boo c.b,int c.n,str c.s]]=biC (env++[⟨t.v,c⟩]):=by simp[biC,Bi.cs]
   rw[e]at h1';exact Ad (r:=.tup [lv',boo true]) rfl (I1 (some (env++[⟨t.v,c⟩]))) σ (Mo h1' (fun y o hy=>(hG.step h2') y o (c4.sub y o hy)) _) ⟨by rw[Uo hv h1],rfl⟩
 |some x=>
  obtain⟨σ4,e4,c4⟩:=c3.abs 0 rfl (.cells ((some x).getD .zero).cs);simp only[go_sem,c3.g2,e4,c4.g2];refine Aqe ?_;simp only[go_sem];refine aIf_by (fun h1=>?_) (fun h1=>?_)
  ·simp only[go_sem]
   refine(U6 env (by omega)).mono ?_;rintro lv σ5 ⟨hL,hG⟩;simp only[go_sem];exact Ad (r:=.tup [lv,boo true]) rfl (I1 (some env)) σ (Mo hL (fun y o hy=>hG y o (c4.sub y o hy)) _) ⟨by rw[Up hv h1],rfl⟩
  ·simp only[go_sem]
   exact Ad (r:=.tup [A4,boo false]) rfl (I1 none) σ (Gh c4.sub _) ⟨by rw[Uq hv h1],rfl⟩
theorem H6(t:Tm)(c:Cn)(env:List Bi)(hl:env.length≤1000000):AT Tryz.prog 153 [.agg t.cs,.agg c.cs,.sl 4 (biC env)] σ fun r σ'=>r=I1 (Bd t c env)∧σ'=σ:=by
 refine AT.ob Tryz.func153 rfl ?_;simp only[go_sem];refine Ctx.nil.alloc fun p σ1 c1=>?_;simp only[go_sem];refine c1.alloc fun q σ2 c2=>?_;simp only[go_sem,c2.g1];refine(Q5 t env (by omega)).p ?_;simp only[go_sem];refine c2.alloc fun r σ3 c3=>?_;obtain⟨σ4,e4,c4⟩:=c3.abs 0 rfl (.cells ((C6 t env).getD .zero).cs);simp only[go_sem,c3.g2,e4];refine Ap (ys:=biC env) (by simp[src]) (by decide) (by decide) (by decide) (LAt.full.app (by rw[N7];simp only[List.length_nil];omega) fun lv σ5 hL h2=>?_);rw[List.nil_append]at hL;have hG:Cg σ4 σ5 lv:=fun y p hy=>h2 y p hy A3;have c5:=c4.more hG.sub;cases hv:C6 t env with
 |none=>
  rw[hv]at c5;simp only[go_sem,c5.g2];refine(Pg t).p ?_;simp only[go_sem];refine aIf_by (fun h0=>?_) (fun h0=>?_)
  ·simp only[go_sem]
   exact Ad (r:=.tup [A4,boo false]) rfl (I1 none) σ (Gh c5.sub _) ⟨by rw[Un hv (by rw[h0];rfl)],rfl⟩
  ·have h1:¬t.v=emp:=fun h1=>by
    rw[Us h0 h1]at hv;cases hv
   simp only[go_sem,c5.g2];refine Ap (ys:=[[str t.v,boo c.b,int c.n,str c.s]]) (by rfl) (by decide) (by decide) (by decide) (hL.app (by rw[N7];simp only[List.length_cons,List.length_nil];omega) fun lv' σ6 h1' h2'=>?_);simp only[go_sem];have e:biC env++[[str t.v,boo c.b,int c.n,str c.s]]=biC (env++[⟨t.v,c⟩]):=by simp[biC,Bi.cs]
   rw[e]at h1';exact Ad (r:=.tup [lv',boo true]) rfl (I1 (some (env++[⟨t.v,c⟩]))) σ (Mo h1' (fun y o hy=>(hG.step h2') y o (c4.sub y o hy)) _) ⟨by rw[Uo hv h1],rfl⟩
 |some x=>
  rw[hv]at c5;simp only[go_sem,c5.g2];refine Ais ?_;simp only[go_sem];refine aIf_by (fun h1=>?_) (fun h1=>?_)
  ·simp only[go_sem]
   exact Ad (r:=.tup [lv,boo true]) rfl (I1 (some env)) σ (Mo hL (fun y o hy=>hG y o (c4.sub y o hy)) _) ⟨by rw[Up hv h1],rfl⟩
  ·simp only[go_sem]
   exact Ad (r:=.tup [A4,boo false]) rfl (I1 none) σ (Gh c5.sub _) ⟨by rw[Uq hv h1],rfl⟩
end
abbrev resN(s:ByteArray)(o:Bool):AV:=.tup [str s,boo o]
def resL(o:Option (List Cn)):AV:=.tup [.sl 3 (cnC (o.getD [])),boo o.isSome]
def Fa.nil:Fa:=⟨emp,emp,emp,[]⟩
def M6(o:Option Fa):AV:=.tup [.agg (o.getD .nil).cs,boo o.isSome]
section
variable{σ:St}{K:AV→Prop}
@[go_sem] theorem Ayw{o:Option (List Cn)}:Hp (resL o) 0 K=K (.sl 3 (cnC (o.getD []))):=by simp[resL,Hp]
@[go_sem] theorem Ayx{o:Option (List Cn)}:Hp (resL o) 1 K=K (boo o.isSome):=by simp[resL,Hp]
@[go_sem] theorem Ayu{o:Option Fa}:Hp (M6 o) 0 K=K (.agg (o.getD .nil).cs):=by simp[M6,Hp]
@[go_sem] theorem Ayv{o:Option Fa}:Hp (M6 o) 1 K=K (boo o.isSome):=by simp[M6,Hp]
theorem Ko{t:Tm}{env:List Bi}(h:C6 t env=none):Eh t env=none:=by unfold Eh;rw[h]
theorem H3{t:Tm}{env:List Bi}{c:Cn}(h:C6 t env=some c)(h1:c=nmC c.s):Eh t env=some c.s:=by unfold Eh;rw[h];simp only;rw[if_pos h1]
theorem Pf{t:Tm}{env:List Bi}{c:Cn}(h:C6 t env=some c)(h1:¬c=nmC c.s):Eh t env=none:=by unfold Eh;rw[h];simp only;rw[if_neg h1]
def Aig(o:Option ByteArray)(r:AV):Prop:=∃s,r=resN s o.isSome∧(∀x,o=some x→s=x)
theorem Aam(t:Tm)(env:List Bi)(hl:env.length≤1000000):AT Tryz.prog 209 [.agg t.cs,.sl 4 (biC env)] σ fun r σ'=>Aig (Eh t env) r∧σ'=σ:=by
 refine AT.ob Tryz.func209 rfl ?_;simp only[go_sem];refine Ctx.nil.alloc fun p σ1 c1=>?_;simp only[go_sem,c1.g0];refine(Uu t env (by omega)).p ?_;simp only[go_sem];refine c1.alloc fun q σ2 c2=>?_;cases hv:C6 t env with
 |none=>
  obtain⟨σ3,e3,c3⟩:=c2.abs 0 rfl (.cells Cn.zero.cs);have e0:((none:Option Cn).getD .zero).cs=Cn.zero.cs:=rfl;simp only[go_sem,c2.g1,e0,e3];refine Af [.rd 0 false,.rd 1 true,.rd 2 false,.rd 3 false,.rd 4 true,.rd 5 false,.rd 6 true,.ef 7 [1,4],.rd 8 false,.rd 9 false,.rd 10 false,.rd 11 false] ?_;simp only[go_sem,c3.g1];exact Ad (r:=.tup [str emp,boo false]) rfl _ σ (c3.view _) ⟨⟨emp,by rw[Ko hv];rfl,fun x hx=>by rw[Ko hv]at hx;cases hx⟩,rfl⟩
 |some c=>
  obtain⟨σ3,e3,c3⟩:=c2.abs 0 rfl (.cells c.cs);have e0:((some c).getD .zero).cs=c.cs:=rfl;simp only[go_sem,c2.g1,e0,e3];refine Af [.rd 0 false,.rd 1 true,.rd 2 false,.rd 3 false,.rd 4 true,.rd 5 false,.rd 6 true,.ef 7 [1,4],.rd 8 false,.rd 9 false,.rd 10 false,.rd 11 false] ?_;simp only[go_sem,c3.g1];refine(Yn c.s).p ?_;simp only[go_sem,c3.g1];refine Ais ?_;simp only[go_sem];by_cases h1:c=nmC c.s
  ·exact Ad (r:=.tup [str c.s,boo (decide (c=nmC c.s))]) rfl _ σ (c3.view _) ⟨⟨c.s,by rw[H3 hv h1,decide_eq_true h1];rfl,fun x hx=>by rw[H3 hv h1]at hx;injection hx⟩,rfl⟩
  ·exact Ad (r:=.tup [str c.s,boo (decide (c=nmC c.s))]) rfl _ σ (c3.view _) ⟨⟨c.s,by rw[Pf hv h1,decide_eq_false h1];rfl,fun x hx=>by rw[Pf hv h1]at hx;cases hx⟩,rfl⟩
theorem Wq{l:List Tm}{env:List Bi}{i:Nat}(h:i<l.length):Dz (l.take (i+1)) env=(Dz (l.take i) env).bind fun a=>(C6 l[i] env).map fun c=>a++[c]:=by
 induction l generalizing i with
 |nil=>simp at h
 |cons t l ih=>
  cases i with
  |zero=>
   simp only[Nat.zero_add,List.take_succ_cons,List.take_zero,Dz,List.getElem_cons_zero,Option.bind_some];cases C6 t env<;>rfl
  |succ i=>
   simp only[List.take_succ_cons,Dz,List.getElem_cons_succ];cases C6 t env with
   |none=>rfl
   |some c=>
    have h':i<l.length:=by simpa using h
    simp only;rw[ih h'];cases Dz (l.take i) env with
    |none=>rfl
    |some a=>cases C6 l[i] env<;>rfl
theorem Wp{l:List Tm}{env:List Bi}{i:Nat}(h:i≤l.length)(hn:Dz (l.take i) env=none):Dz l env=none:=by
 induction l generalizing i with
 |nil=>simp[Dz]at hn
 |cons t l ih=>
  cases i with
  |zero=>simp[Dz]at hn
  |succ i=>
   simp only[List.take_succ_cons,Dz]at hn⊢;cases hv:C6 t env with
   |none=>rfl
   |some c=>
    rw[hv]at hn;simp only at hn⊢;rw[Option.map_eq_none_iff]at hn;rw[ih (by simpa using h) hn];rfl
theorem Aid(l:List Tm)(env:List Bi)(hl:l.length≤1000000)(he:env.length≤1000000):AT Tryz.prog 210 [.sl 4 (tmC l),.sl 4 (biC env)] σ fun r σ'=>r=resL (Dz l env)∧σ'=σ:=by
 refine AT.ob Tryz.func210 rfl ?_;simp only[go_sem,Aa];refine⟨fun m fr σ'=>∃(i:Nat) (lv:AV) (a:List Cn),m=l.length-i∧i≤l.length∧LAt 3 σ' lv (cnC a)∧Cg σ σ' lv∧a.length=i∧Dz (l.take i) env=some a∧fr 1= .sl 4 (biC env)∧fr 6=lv∧fr 11= .sl 4 (tmC l)∧fr 12=int l.length∧fr 13=int i,⟨_,0,A4,[],rfl,by omega,.none,.nil,rfl,rfl,rfl,rfl,rfl,rfl,rfl⟩,?_⟩;rintro m fr σ1 ⟨i,lv,a,rfl,hi,hL,hG,ha,hv,f1,f6,f11,f12,f13⟩;simp only[go_sem,f12,f13];refine aIf_by (fun hlt=>?_) (fun hlt=>?_)
 ·have hil:i<l.length:=by omega
  simp only[go_sem,Aa,f11,f13,H0 hil];refine⟨by omega,Ctx.nil.alloc fun p σ2 c1=>?_⟩;obtain⟨σ3,e3,c2⟩:=c1.abs 0 rfl (.cells l[i].cs);simp only[go_sem,Aa,c1.g0,e3,c2.g0,f1];refine(Uu l[i] env (by omega)).p ?_;simp only[go_sem,Aa];refine c2.alloc fun q σ4 c3=>?_;have hs:=Wq (env:=env) hil;rw[hv,Option.bind_some]at hs;cases hc:C6 l[i] env with
  |none=>
   rw[hc]at hs;obtain⟨σ5,e5,c4⟩:=c3.abs 0 rfl (.cells Cn.zero.cs);have e0:((none:Option Cn).getD .zero).cs=Cn.zero.cs:=rfl;simp only[go_sem,Aa,c3.g1,e0,e5];exact Ad (r:=.tup [A4,boo false]) rfl (resL none) σ (Gh (fun y o hy=>c4.sub _ _ (hG.sub y o hy)) _) ⟨by rw[Wp (by omega) hs],rfl⟩
  |some c=>
   rw[hc]at hs;obtain⟨σ5,e5,c4⟩:=c3.abs 0 rfl (.cells c.cs);have e0:((some c).getD .zero).cs=c.cs:=rfl;simp only[go_sem,Aa,c3.g1,e0,e5,c4.g1,f6];have hL4:LAt 3 σ5 lv (cnC a):=hL.keep fun y o hy _=>c4.sub y o hy;refine Ap (ys:=[c.cs]) (by rfl) (by decide) (by decide) (by decide) (hL4.app (by rw[Hy,ha];simp only[List.length_cons,List.length_nil];omega) fun lv' σ6 h1 g1=>?_);have e6:cnC a++[c.cs]=cnC (a++[c]):=by simp[cnC]
   rw[e6]at h1;simp only[go_sem,Aa,f1,f11,f12,f13,As i (by omega)];have hG':Cg σ σ6 lv':=fun y o hy=>g1 y o (c4.sub _ _ (hG y o hy).1) (hG y o hy).2;exact⟨l.length-(i+1),by omega,i+1,lv',a++[c],rfl,by omega,h1,hG',by simp[ha],hs,rfl,rfl⟩
 ·rw[List.take_of_length_le (by omega)]at hv
  simp only[go_sem,Aa,f6];exact Ad (r:=.tup [lv,boo true]) rfl (resL (some a)) σ (Mo hL hG _) ⟨by rw[hv],rfl⟩
end
section
variable{σ σ1:St}
theorem Aa2(t:Tm)(env:List Bi)(hl:env.length≤1000000):AT Tryz.prog 223 [.agg t.cs,.sl 4 (biC env)] σ fun r σ'=>Aig (Eh t env) r∧σ'=σ:=by
 refine AT.ob Tryz.func223 rfl ?_;simp only[go_sem];refine Ctx.nil.alloc fun p σ1 c1=>?_;simp only[go_sem,c1.g0];refine(Q5 t env (by omega)).p ?_;simp only[go_sem];refine c1.alloc fun q σ2 c2=>?_;cases hv:C6 t env with
 |none=>
  obtain⟨σ3,e3,c3⟩:=c2.abs 0 rfl (.cells Cn.zero.cs);have e0:((none:Option Cn).getD .zero).cs=Cn.zero.cs:=rfl;simp only[go_sem,c2.g1,e0,e3];refine Af [.rd 0 false,.rd 1 false,.rd 2 false,.rd 3 true,.rd 4 false,.rd 5 true,.ef 6 [3],.rd 7 false,.rd 8 false] ?_;simp only[go_sem,c3.g1];exact Ad (r:=.tup [str emp,boo false]) rfl _ σ (c3.view _) ⟨⟨emp,by rw[Ko hv];rfl,fun x hx=>by rw[Ko hv]at hx;cases hx⟩,rfl⟩
 |some c=>
  obtain⟨σ3,e3,c3⟩:=c2.abs 0 rfl (.cells c.cs);have e0:((some c).getD .zero).cs=c.cs:=rfl;simp only[go_sem,c2.g1,e0,e3];refine Af [.rd 0 false,.rd 1 false,.rd 2 false,.rd 3 true,.rd 4 false,.rd 5 true,.ef 6 [3],.rd 7 false,.rd 8 false] ?_;simp only[go_sem,c3.g1];refine(Ml c.s).p ?_;simp only[go_sem,c3.g1];refine Aqe ?_;simp only[go_sem];by_cases h1:c=nmC c.s
  ·have d:=decide_eq_true h1
   simp only[go_sem,d,Bool.not_true,c3.g1];exact Ad (r:=.tup [str c.s,boo true]) rfl _ σ (c3.view _) ⟨⟨c.s,by rw[H3 hv h1];rfl,fun x hx=>by rw[H3 hv h1]at hx;injection hx⟩,rfl⟩
  ·have d:=decide_eq_false h1
   simp only[go_sem,d,Bool.not_false];exact Ad (r:=.tup [str emp,boo false]) rfl _ σ (c3.view _) ⟨⟨emp,by rw[Pf hv h1];rfl,fun x hx=>by rw[Pf hv h1]at hx;cases hx⟩,rfl⟩
theorem Adj(l:List Tm)(env:List Bi)(hl:l.length≤1000000)(he:env.length≤1000000):AT Tryz.prog 224 [.sl 4 (tmC l),.sl 4 (biC env)] σ fun r σ'=>r=resL (Dz l env)∧σ'=σ:=by
 refine AT.ob Tryz.func224 rfl ?_;simp only[go_sem,Aa];refine⟨fun m fr σ'=>∃(i:Nat) (lv:AV) (a:List Cn),m=l.length-i∧i≤l.length∧LAt 3 σ' lv (cnC a)∧Cg σ σ' lv∧a.length=i∧Dz (l.take i) env=some a∧fr 0= .sl 4 (tmC l)∧fr 1= .sl 4 (biC env)∧fr 6=lv∧fr 7=int i,⟨_,0,A4,[],rfl,by omega,.none,.nil,rfl,rfl,rfl,rfl,rfl,rfl⟩,?_⟩;rintro m fr σ1 ⟨i,lv,a,rfl,hi,hL,hG,ha,hv,f0,f1,f6,f7⟩;simp only[go_sem,f0,f7];refine aIf_by (fun hlt=>?_) (fun hlt=>?_)
 ·have hil:i<l.length:=by omega
  simp only[go_sem,Aa,f0,f1,f7,H0 hil];refine⟨by omega,(Q5 l[i] env (by omega)).p ?_⟩;simp only[go_sem,Aa];refine Ctx.nil.alloc fun q σ4 c3=>?_;have hs:=Wq (env:=env) hil;rw[hv,Option.bind_some]at hs;cases hc:C6 l[i] env with
  |none=>
   rw[hc]at hs;obtain⟨σ5,e5,c4⟩:=c3.abs 0 rfl (.cells Cn.zero.cs);have e0:((none:Option Cn).getD .zero).cs=Cn.zero.cs:=rfl;simp only[go_sem,Aa,c3.g0,e0,e5];exact Ad (r:=.tup [A4,boo false]) rfl (resL none) σ (Gh (fun y o hy=>c4.sub _ _ (hG.sub y o hy)) _) ⟨by rw[Wp (by omega) hs],rfl⟩
  |some c=>
   rw[hc]at hs;obtain⟨σ5,e5,c4⟩:=c3.abs 0 rfl (.cells c.cs);have e0:((some c).getD .zero).cs=c.cs:=rfl;simp only[go_sem,Aa,c3.g0,e0,e5,c4.g0,f6];have hL4:LAt 3 σ5 lv (cnC a):=hL.keep fun y o hy _=>c4.sub y o hy;refine Ap (ys:=[c.cs]) (by rfl) (by decide) (by decide) (by decide) (hL4.app (by rw[Hy,ha];simp only[List.length_cons,List.length_nil];omega) fun lv' σ6 h1 g1=>?_);have e6:cnC a++[c.cs]=cnC (a++[c]):=by simp[cnC]
   rw[e6]at h1;simp only[go_sem,Aa,f0,f1,f7,As i (by omega)];have hG':Cg σ σ6 lv':=fun y o hy=>g1 y o (c4.sub _ _ (hG y o hy).1) (hG y o hy).2;exact⟨l.length-(i+1),by omega,i+1,lv',a++[c],rfl,by omega,h1,hG',by simp[ha],hs,rfl,rfl⟩
 ·rw[List.take_of_length_le (by omega)]at hv
  simp only[go_sem,Aa,f6];exact Ad (r:=.tup [lv,boo true]) rfl (resL (some a)) σ (Mo hL hG _) ⟨by rw[hv],rfl⟩
theorem Ra(h:∀x o,σ x=some o→σ1 x=some o)(x:AV):Hf σ1 (.tup [.agg [str emp,str emp,str emp,A4],x]) σ (.tup [.agg Fa.nil.cs,x]):=by
 have h1:VWs σ1 σ [str emp,str emp,str emp,A4] Fa.nil.cs:=vws_same (vws_same (vws_same (vws_cons (.nil 3) By)));have h2:VWs σ1 σ [.agg [str emp,str emp,str emp,A4],x] [.agg Fa.nil.cs,x]:=vws_cons (.agg _ _ rfl h1.2) (Bu _);exact view_of (Es fun y o hy=>.inl (h y o hy)) (.tup _ _ rfl h2.2)
theorem Tp{r:Rl}{env:List Bi}{b a:ByteArray}{l:List Cn}(h1:Eh r.ho env=some b)(h2:Eh (orT r.at' r.ho) env=some a)(h3:Dz r.ar env=some l):C8 r env=some ⟨a,b,r.nm,l⟩:=by
 unfold C8;rw[h1,h2,h3];rfl
theorem Gt{r:Rl}{env:List Bi}(h:Eh r.ho env=none∨Eh (orT r.at' r.ho) env=none∨Dz r.ar env=none):C8 r env=none:=by
 unfold C8;rcases h with h|h|h
 ·rw[h];rfl
 ·rw[h];cases Eh r.ho env<;>rfl
 ·rw[h];cases Eh r.ho env<;>cases Eh (orT r.at' r.ho) env<;>rfl
@[go_sem] theorem Rl.at6(r:Rl):(r.cs.drop 6).take 4=r.at'.cs:=rfl
@[go_sem] theorem Rl.nm4'(r:Rl):r.cs.getD 4 (.v undef)=str r.nm:=rfl
@[go_sem] theorem Rl.ar5'(r:Rl):r.cs.getD 5 (.v undef)= .sl 4 (tmC r.ar):=rfl
theorem Aox(r:Rl)(env:List Bi)(hl:r.ar.length≤1000000)(he:env.length≤1000000):AT Tryz.prog 164 [.agg r.cs,.sl 4 (biC env)] σ fun v σ'=>v=M6 (C8 r env)∧σ'=σ:=by
 refine AT.ob Tryz.func164 rfl ?_;simp only[go_sem];refine Ctx.nil.alloc fun p σ1 c1=>?_;simp only[go_sem];refine c1.alloc fun q σ2 c2=>?_;simp only[go_sem,c2.g1];refine(Aam r.ho env he).mono ?_;rintro _ σ2 ⟨⟨s1,rfl,hs1⟩,rfl⟩;simp only[go_sem,c2.g1];refine(Ale r.at' r.ho).p ?_;simp only[go_sem,c2.g1];refine(Aam (orT r.at' r.ho) env he).mono ?_;rintro _ σ2 ⟨⟨s2,rfl,hs2⟩,rfl⟩;simp only[go_sem,c2.g1];refine(Aid r.ar env hl he).p ?_;have fail:∀{fr:Fr} {σ3:St},fr 4=ptr q→fr 5=boo false→(∀y o,σ y=some o→σ3 y=some o)→σ3 q=some (.cells [str emp,str emp,str emp,A4])→C8 r env=none→Dw Tryz.prog (fun v σ'=>v=M6 (C8 r env)∧σ'=σ) [.cell 4 30,.tmp 5] fr σ3:=fun h4 h5 hs hq hn=>
  D5 σ (M6 none) h4 hq tk30 rfl rfl (by rw[h5];exact Ra hs _) ⟨by rw[hn],rfl⟩
 cases h1:Eh r.ho env with
 |none=>
  simp only[go_sem,c2.g1];exact fail rfl rfl (c2.upd 0 rfl).sub Ab (Gt (.inl h1))
 |some b=>
  cases h2:Eh (orT r.at' r.ho) env with
  |none=>
   simp only[go_sem,c2.g1];exact fail rfl rfl (c2.upd 0 rfl).sub Ab (Gt (.inr (.inl h2)))
  |some a=>
   cases h3:Dz r.ar env with
   |none=>
    simp only[go_sem,c2.g1];exact fail rfl rfl (c2.upd 0 rfl).sub Ab (Gt (.inr (.inr h3)))
   |some l=>
    obtain rfl:=hs1 b h1;obtain rfl:=hs2 a h2;simp only[go_sem,c2.g1];exact D5 σ (M6 (some ⟨s2,s1,r.nm,l⟩)) rfl Ab tk30 rfl rfl ((c2.upd 0 rfl).view _) ⟨by rw[Tp h1 h2 h3],rfl⟩
theorem Aa0(r:Rl)(env:List Bi)(hl:r.ar.length≤1000000)(he:env.length≤1000000):AT Tryz.prog 175 [.agg r.cs,.sl 4 (biC env)] σ fun v σ'=>v=M6 (C8 r env)∧σ'=σ:=by
 refine AT.ob Tryz.func175 rfl ?_;simp only[go_sem];refine Ctx.nil.alloc fun p σ1 c1=>?_;simp only[go_sem];refine c1.alloc fun q σ2 c2=>?_;simp only[go_sem,c2.g1];refine c2.alloc fun t σ3 c3=>?_;obtain⟨σ4,e4,c4⟩:=c3.abs 0 rfl (.cells r.at'.cs);simp only[go_sem,c3.g2,e4,c4.g2];refine(Pg r.at').p ?_;simp only[go_sem];refine C0 (fun fr σ'=>Ctx σ [(t,.cells (orT r.at' r.ho).cs),(q,.cells [str emp,str emp,str emp,A4]),(p,.cells r.cs)] σ'∧fr 1= .sl 4 (biC env)∧fr 2=ptr p∧fr 4=ptr q∧fr 5=boo false∧fr 6=ptr t) (fun h0=>?_) (fun h0=>?_) ?_
 ·obtain⟨σ6,e6,c6⟩:=c4.abs 0 rfl (.cells r.ho.cs)
  simp only[go_sem,c4.g2,e6];unfold orT;rw[if_pos h0];exact c6
 ·simp only[go_sem]
  unfold orT;rw[if_neg h0];exact c4
 clear c4 c3 c2 c1 e4;rintro fr σ6 ⟨c,f1,f2,f4,f5,f6⟩;simp only[go_sem,f1,f2,c.g2];refine(Aa2 r.ho env he).mono ?_;rintro _ σ6 ⟨⟨s1,rfl,hs1⟩,rfl⟩;simp only[go_sem,f1,f6,c.g2];refine(Aa2 (orT r.at' r.ho) env he).mono ?_;rintro _ σ6 ⟨⟨s2,rfl,hs2⟩,rfl⟩;simp only[go_sem,f1,f2,c.g2];refine(Adj r.ar env hl he).p ?_;have fail:∀{fr:Fr} {σ3:St},fr 4=ptr q→fr 5=boo false→(∀y o,σ y=some o→σ3 y=some o)→σ3 q=some (.cells [str emp,str emp,str emp,A4])→C8 r env=none→Dw Tryz.prog (fun v σ'=>v=M6 (C8 r env)∧σ'=σ) [.cell 4 30,.tmp 5] fr σ3:=fun h4 h5 hs hq hn=>
  D5 σ (M6 none) h4 hq tk30 rfl rfl (by rw[h5];exact Ra hs _) ⟨by rw[hn],rfl⟩
 cases h1:Eh r.ho env with
 |none=>
  simp only[go_sem,f4,c.g2];exact fail f4 rfl (c.upd 1 rfl).sub Ab (Gt (.inl h1))
 |some b=>
  cases h2:Eh (orT r.at' r.ho) env with
  |none=>
   simp only[go_sem,f4,c.g2];exact fail f4 rfl (c.upd 1 rfl).sub Ab (Gt (.inr (.inl h2)))
  |some a=>
   cases h3:Dz r.ar env with
   |none=>
    simp only[go_sem,f4,c.g2];exact fail f4 rfl (c.upd 1 rfl).sub Ab (Gt (.inr (.inr h3)))
   |some l=>
    obtain rfl:=hs1 b h1;obtain rfl:=hs2 a h2;simp only[go_sem,f2,f4,c.g2];exact D5 σ (M6 (some ⟨s2,s1,r.nm,l⟩)) f4 Ab tk30 rfl rfl ((c.upd 1 rfl).view _) ⟨by rw[Tp h1 h2 h3],rfl⟩
theorem Asi{l:List ByteArray}{s:ByteArray}(hl:l.length≤1000000000000):AT Tryz.prog 194 [.sl 1 (stC l),str s] σ fun r σ'=>r=boo (decide (s∈l))∧σ'=σ:=by
 refine AT.ob Tryz.func194 rfl ?_;simp only[go_sem,Aa];refine⟨fun m fr σ'=>∃i:Nat,m=l.length-i∧i≤l.length∧σ'=σ∧fr 0= .sl 1 (stC l)∧fr 1=str s∧fr 5=int i∧s∉l.take i,⟨_,0,rfl,by omega,rfl,rfl,rfl,rfl,by simp⟩,?_⟩;rintro m fr σ ⟨i,rfl,h1,rfl,f0,f1,f5,g⟩;simp only[go_sem,f0,f1,f5];refine aIf_by (fun hlt=>?_) (fun hlt=>?_)
 ·have hi:i<l.length:=by omega
  simp only[go_sem,Aa,f0,f1,f5,Kr hi];refine⟨by omega,aIf_by (fun he=>?_) (fun he=>?_)⟩
  ·simp only[go_sem,Aa]
   exact Ae (r:=boo true) rfl ⟨by rw[decide_eq_true];exact he▸List.getElem_mem hi,rfl⟩
  ·simp only[go_sem,Aa,f0,f1,f5,As i (by omega)]
   refine⟨l.length-(i+1),by omega,i+1,rfl,by omega,rfl,?_⟩;rw[List.take_add_one,List.getElem?_eq_getElem hi];simp only[Option.toList,List.mem_append,List.mem_singleton,not_or];exact⟨g,fun e=>he e.symm⟩
 ·simp only[go_sem,Aa,f0,f1,f5]
  rw[List.take_of_length_le (by simp at hlt;omega)]at g;exact Ae (r:=boo false) rfl ⟨by rw[decide_eq_false g],rfl⟩
end
section
variable{σ:St}
theorem An5{l:List Fa}{f:Fa}(k:Nat):([]++(faC l).take k)++[f.cs]++(faC l).drop k=faC (l.take k++f::l.drop k):=by
 simp[faC,List.map_take,List.map_drop]
theorem H1(l:List Fa)(f:Fa)(hl:l.length≤1000000000000)(hls:∀x∈l,x.Sm)(hf:f.Sm):AT Tryz.prog 28 [.sl 4 (faC l),.agg f.cs] σ fun v σ'=>v= .sl 4 (faC (A1 Ai f l))∧σ'=σ:=by
 refine AT.ob Tryz.func28 rfl ?_;simp only[go_sem];refine Ctx.nil.alloc fun p σ1 c1=>?_;simp only[go_sem,Aa];refine⟨fun m fr σ'=>∃k:Nat,m=l.length-k∧k≤l.length∧σ'=σ1∧(∀i (hi:i<k) (hl:i<l.length),Ai l[i] f<0)∧fr 0= .sl 4 (faC l)∧fr 3=ptr p∧fr 5=int k,⟨_,0,rfl,by omega,rfl,fun i hi=>by omega,rfl,rfl,rfl⟩,?_⟩;rintro m fr σ1 ⟨k,rfl,hk,rfl,hI,f0,f3,f5⟩;simp only[go_sem,Aa];refine Af [.rd 0 false,.rd 1 false,.rd 2 false,.rd 3 false,.rd 4 false,.rd 5 false,.rd 6 false,.rd 7 false,.rd 8 true,.rd 9 true,.ef 10 [],.rd 11 false,.rd 12 false] ?_;by_cases g:∃hk:k<l.length,Ai l[k] f<0
 ·obtain⟨g1,g2⟩:=g
  have d1:=decide_eq_true (show(k:Int)<l.length by omega);have d2:=decide_eq_true g2;simp only[go_sem,Aa,f0,f3,f5,d1,c1.g0,Aq g1];refine⟨by omega,(Fg (x:=l[k]) (y:=f) .cs .cs (hls _ (List.getElem_mem g1)) hf).p ?_⟩;simp only[go_sem,Aa,f0,f3,f5,d2,As k (by omega)];refine⟨l.length-(k+1),by omega,k+1,?_⟩;have hI':∀i (hi:i<k+1) (hl:i<l.length),Ai l[i] f<0:=fun i hi hl=>by
   by_cases e:i=k
   ·subst e;exact g2
   ·exact hI i (by omega) hl
  (and_intros<;>first|assumption|rfl|omega)
 ·have hn:∀hk:k<l.length,¬Ai l[k] f<0:=fun h1 h2=>g ⟨h1,h2⟩
  have hins:=Ih (c:=Ai) hk hI hn;by_cases h0:∃hk:k<l.length,Ai l[k] f=0
  ·obtain⟨g1,g2⟩:=h0
   rw[if_pos ⟨g1,g2⟩]at hins;have d1:=decide_eq_true (show(k:Int)<l.length by omega);have d2:=decide_eq_false (hn g1);have d3:=decide_eq_true g2;simp only[go_sem,Aa,f0,f3,f5,d1,c1.g0,Aq g1];refine⟨by omega,(Fg (x:=l[k]) (y:=f) .cs .cs (hls _ (List.getElem_mem g1)) hf).p ?_⟩;simp only[go_sem,Aa,d2];refine Af [.rd 0 false,.rd 1 false,.rd 2 false,.rd 3 false,.rd 4 false,.rd 5 false,.rd 6 false,.rd 7 false,.rd 8 true,.rd 9 true,.ef 10 [],.rd 11 false,.rd 12 false] ?_;simp only[go_sem,Aa,f0,f3,f5,d1,c1.g0,Aq g1];refine⟨by omega,(Fg (x:=l[k]) (y:=f) .cs .cs (hls _ (List.getElem_mem g1)) hf).p ?_⟩;simp only[go_sem,Aa,d3,f0];exact Ad (r:=.sl 4 (faC l)) rfl _ σ (c1.view _) ⟨by rw[hins],rfl⟩
  ·rw[if_neg h0]at hins
   by_cases hkl:k<l.length
   case' pos=>
    have d1:=decide_eq_true (show(k:Int)<l.length by omega);have d2:=decide_eq_false (hn hkl);have d3:=decide_eq_false (show¬Ai l[k] f=0 from fun e=>h0 ⟨hkl,e⟩);simp only[go_sem,Aa,f0,f3,f5,d1,c1.g0,Aq hkl];refine⟨by omega,(Fg (x:=l[k]) (y:=f) .cs .cs (hls _ (List.getElem_mem hkl)) hf).p ?_⟩;simp only[go_sem,Aa,d2];refine Af [.rd 0 false,.rd 1 false,.rd 2 false,.rd 3 false,.rd 4 false,.rd 5 false,.rd 6 false,.rd 7 false,.rd 8 true,.rd 9 true,.ef 10 [],.rd 11 false,.rd 12 false] ?_;simp only[go_sem,Aa,f0,f3,f5,d1,c1.g0,Aq hkl];refine⟨by omega,(Fg (x:=l[k]) (y:=f) .cs .cs (hls _ (List.getElem_mem hkl)) hf).p ?_⟩;simp only[go_sem,Aa,d3,f0,f5]
   case' neg=>
    have d1:=decide_eq_false (show¬(k:Int)<l.length by omega);simp only[go_sem,Aa,f0,f3,f5,d1];refine Af [.rd 0 false,.rd 1 false,.rd 2 false,.rd 3 false,.rd 4 false,.rd 5 false,.rd 6 false,.rd 7 false,.rd 8 true,.rd 9 true,.ef 10 [],.rd 11 false,.rd 12 false] ?_;simp only[go_sem,Aa,f0,f3,f5,d1]
   all_goals
    refine Aa6 (by omega) (by rw[Aj];omega) ?_;simp only[go_sem,Aa];refine Ap (ys:=(faC l).take k) (by simp[src]) (by decide) (by decide) (by decide) (LAt.full.app (by rw[List.length_take,Aj];simp only[List.length_nil];omega) fun l1 σ2 h1 e1=>?_);have G1:Cg σ1 σ2 l1:=fun y p hy=>e1 y p hy A3;simp only[go_sem,Aa,f3,G1.sub _ _ c1.g0];refine Ap (ys:=[f.cs]) (by rfl) (by decide) (by decide) (by decide) (h1.app (by rw[List.nil_append,List.length_take,Aj];simp only[List.length_nil,List.length_cons];omega) fun l2 σ3 h2 e2=>?_);have G2:=G1.step e2;simp only[go_sem,Aa,f0,f5];refine Aa5 (by omega) (by rw[Aj];omega) ?_;simp only[go_sem,Aa];refine Ap (ys:=(faC l).drop k) (by simp[src]) (by decide) (by decide) (by decide) (h2.app (by simp only[List.nil_append,List.length_append,List.length_take,List.length_drop,Aj,List.length_nil,List.length_cons];omega) fun l3 σ4 h3 e3=>?_);have G3:=G2.step e3;rw[An5,←hins]at h3;simp only[go_sem,Aa];exact Ad (r:=l3) rfl _ σ (Gz h3 fun y o hy=>G3 y o (c1.sub y o hy)) ⟨rfl,rfl⟩
theorem T9(l:List Fa)(hl:l.length≤1000000000000)(hls:∀x∈l,x.Sm):AT Tryz.prog 94 [.sl 4 (faC l)] σ fun v σ'=>v= .sl 4 (faC (Aw Ai [] l))∧σ'=σ:=by
 refine AT.ob Tryz.func94 rfl ?_;simp only[go_sem,Aa];refine⟨fun m fr σ'=>∃(k:Nat) (v:AV),m=l.length-k∧k≤l.length∧σ'=σ∧VW σ σ v (.sl 4 (faC (Aw Ai [] (l.take k))))∧fr 0= .sl 4 (faC l)∧fr 3=v∧fr 4=int k,⟨_,0,A4,rfl,by omega,rfl,.nil 4,rfl,rfl,rfl⟩,?_⟩;rintro m fr σ ⟨k,v,rfl,hk,rfl,hv,f0,f3,f4⟩;simp only[go_sem,f0,f4];refine aIf_by (fun hlt=>?_) (fun hlt=>?_)
 ·have hkl:k<l.length:=by omega
  have hlen:=Bn (c:=Ai) (s:=[]) (l:=l.take k);have hsm:∀x∈Aw Ai [] (l.take k),x.Sm:=fun x hx=>by
   rcases(Ar Ah).1 hx with h|h
   ·exact hls x (List.mem_of_mem_take h)
   ·cases h
  simp only[List.length_nil,List.length_take]at hlen;simp only[go_sem,Aa,f0,f3,f4,Aq hkl];refine⟨by omega,(AT.weak (H1 (Aw Ai [] (l.take k)) l[k] (by omega) hsm (hls _ (List.getElem_mem hkl))) (vws_cons hv (Bu _))).p ?_⟩;simp only[go_sem,Aa,f0,f4,As k (by omega)];have hv':VW σ σ (.sl 4 (faC (A1 Ai l[k] (Aw Ai [] (l.take k))))) (.sl 4 (faC (Aw Ai [] (l.take (k+1))))):=by
   rw[List.take_add_one,List.getElem?_eq_getElem hkl,Ef];exact .refl _
  refine⟨l.length-(k+1),by omega,k+1,.sl 4 (faC (A1 Ai l[k] (Aw Ai [] (l.take k)))),?_⟩
  (and_intros<;>first|assumption|rfl|omega)
 ·rw[List.take_of_length_le (by omega)]at hv
  simp only[go_sem,Aa,f3];exact Ad (r:=v) rfl _ σ (view_of (Es fun x o hx=>.inl hx) hv) ⟨rfl,rfl⟩
end
abbrev clo(f t:Nat):AV:=.v (.func (.func f) #[] #[.pointer (some ⟨t,0,none⟩)])
section
variable{σ:St}{t g:Nat}
theorem Ae2(f x:Fa)(sf:f.Sm)(sx:x.Sm)(ht:σ t=some (.cells f.cs)):AT Tryz.prog 111 [.agg x.cs,ptr t] σ fun r σ'=>r=boo (decide (f=x))∧σ'=σ:=by
 refine AT.ob Tryz.func111 rfl ?_;simp only[go_sem];refine Ctx.nil.alloc fun p σ1 c1=>?_;simp only[go_sem,c1.g0,c1.sub _ _ ht];refine(I5 f x sf sx).p ?_;simp only[go_sem];exact Ad (r:=boo _) rfl _ σ (c1.view _) ⟨by rw[decide_eq_decide.2 (Ah.zero f x)],rfl⟩
def IdxS(p:Fa→Bool)(l:List Fa)(k:Int):Prop:=k= -1∧(∀x∈l,p x=false)∨∃i:Nat,k=i∧∃h:i<l.length,p l[i]=true∧∀x∈l.take i,p x=false
theorem Qv{lv:AV}(l:List Fa)(p:Fa→Bool)(h:Rd 4 σ lv (faC l))(hl:l.length≤1000000000000)(hC:∀x∈l,AT Tryz.prog g [.agg x.cs,ptr t] σ fun r σ'=>r=boo (p x)∧σ'=σ):AT Tryz.prog 120 [lv,clo g t] σ fun r σ'=>(∃k:Int,r=int k∧IdxS p l k)∧σ'=σ:=by
 refine AT.ob Tryz.func120 rfl ?_;simp only[go_sem,Aa,h.len];refine⟨fun m fr σ'=>∃i:Nat,m=l.length-i∧i≤l.length∧σ'=σ∧(∀x∈l.take i,p x=false)∧fr 0=lv∧fr 1=clo g t∧fr 7=int l.length∧fr 8=int i,⟨_,0,rfl,by omega,rfl,fun x hx=>by simp at hx,rfl,rfl,rfl,rfl⟩,?_⟩;rintro m fr σ ⟨i,rfl,hi,rfl,hp,f0,f1,f7,f8⟩;simp only[go_sem,f7,f8];refine aIf_by (fun hlt=>?_) (fun hlt=>?_)
 ·have hil:i<l.length:=by omega
  simp only[go_sem,Aa,f0,f1,f8];refine h.elem (by omega) (by rw[Aj];omega) fun e he=>?_;have eg:(faC l).getD i []=l[i].cs:=Aq hil;simp only[go_sem,Aa];refine he.load (by decide) (by rw[Int.toNat_natCast,eg];exact Nat.le_refl 4) ?_;simp only[go_sem,Aa,eg];refine(hC _ (List.getElem_mem hil)).p ?_;simp only[go_sem,Aa];refine aIf_bool (fun hb=>?_) (fun hb=>?_)
  ·simp only[go_sem,Aa]
   exact Ae (r:=int i) rfl ⟨⟨_,rfl,.inr ⟨i,rfl,hil,hb,hp⟩⟩,rfl⟩
  ·have hp':∀x∈l.take (i+1),p x=false:=fun x hx=>by
    rw[List.take_add_one,List.getElem?_eq_getElem hil]at hx;rcases List.mem_append.1 hx with h|h
    ·exact hp x h
    ·simp at h;subst h;exact hb
   simp only[go_sem,Aa,f0,f1,f7,f8,As i (by omega)];refine⟨l.length-(i+1),by omega,i+1,?_⟩
   (and_intros<;>first|assumption|rfl|omega)
 ·rw[List.take_of_length_le (by omega)]at hp
  simp only[go_sem,Aa];exact Ae (r:=int (-1)) rfl ⟨⟨_,rfl,.inl ⟨rfl,hp⟩⟩,rfl⟩
theorem Aez(l:List Fa)(x:Fa)(hl:l.length≤1000000000000)(sl:∀y∈l,y.Sm)(sx:x.Sm):AT Tryz.prog 57 [.sl 4 (faC l),.agg x.cs] σ fun r σ'=>r=boo (decide (x∈l))∧σ'=σ:=by
 refine AT.ob Tryz.func57 rfl ?_;simp only[go_sem];refine Ctx.nil.alloc fun q σ1 c1=>?_;simp only[go_sem];simp only[Fq,C9];simp only[go_sem];have hc:AT Tryz.prog 110 [.sl 4 (faC l),clo 111 q] σ1 fun r σ'=>r=boo (decide (x∈l))∧σ'=σ1:=by
  refine AT.ob Tryz.func110 rfl ?_;simp only[go_sem];refine(Qv l (fun y=>decide (x=y)) .sl hl fun y hy=>Ae2 x y sx (sl y hy) c1.g0).mono ?_;rintro _ σ1 ⟨⟨k,rfl,hk⟩,rfl⟩;simp only[go_sem];have hd:((0:Int)≤k)↔x∈l:=?_
  ·exact Ae (r:=boo (decide ((0:Int)≤k))) rfl ⟨by rw[decide_eq_decide.2 hd],rfl⟩
  rcases hk with⟨rfl,hk⟩|⟨i,rfl,h1,h2,h3⟩
  ·exact⟨fun h=>absurd h (by omega),fun h=>by have:=hk x h;simp at this⟩
  ·exact⟨fun _=>by rw[of_decide_eq_true h2];exact List.getElem_mem h1,fun _=>by omega⟩
 refine hc.p ?_;simp only[go_sem];exact Ad (r:=boo (decide (x∈l))) rfl _ σ (c1.view _) ⟨rfl,rfl⟩
theorem Ahf(l:List Fa)(x:Fa)(hl:l.length≤1000000000000)(sl:∀y∈l,y.Sm)(sx:x.Sm)(ht:σ t=some (.cells [.sl 4 (faC l)])):AT Tryz.prog 128 [.agg x.cs,ptr t] σ fun r σ'=>r=boo (decide (x∈l))∧σ'=σ:=by
 refine AT.ob Tryz.func128 rfl ?_;simp only[go_sem];refine Ctx.nil.alloc fun q σ1 c1=>?_;simp only[go_sem,c1.g0,c1.sub _ _ ht];refine(Aez l x hl sl sx).p ?_;simp only[go_sem];exact Ad (r:=boo (decide (x∈l))) rfl _ σ (c1.view _) ⟨rfl,rfl⟩
theorem Abh{p:Fa→Bool}{l:List Fa}{j:Nat}(h:j<l.length):((l.take (j+1)).filter fun x=>!p x).length=((l.take j).filter fun x=>!p x).length+(if p l[j]then 0 else 1):=by
 rw[List.take_add_one,List.getElem?_eq_getElem h,List.filter_append,List.length_append];cases hb:p l[j]<;>simp[hb]
theorem Qp{p:Fa→Bool}{l:List Fa}(h:∀x∈l,p x=false):(l.filter fun x=>!p x)=l:=List.filter_eq_self.2 fun x hx=>by rw[h x hx];rfl
end
end Go.Proofs.YtmifmncabejffaaGreat
