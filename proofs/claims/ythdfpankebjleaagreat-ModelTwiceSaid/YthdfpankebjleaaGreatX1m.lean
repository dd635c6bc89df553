/-
  Contracts of the functions that the statement reaches, and the plain laws of what they reckon.
  Conditions: none.
-/
import Derived.Test.YthdfpankebjleaaGreatRows
import Derived.Sort.AssemblyPlain
import Derived.Test.YthdfpankebjleaaGreatV1
import Derived.Test.YthdfpankebjleaaGreatV2
import Derived.Test.YthdfpankebjleaaGreatV3
set_option linter.unusedVariables false
set_option linter.unusedSimpArgs false
set_option linter.unusedSectionVars false
set_option maxRecDepth 100000
/- The types of this translation, as the logic asks of them. Conditions: none. -/
namespace Go.Proofs.YthdfpankebjleaaGreat
open Go Go.Av
def zl0 : List Value := [.string ⟨#[]⟩, .bool false, .int .i64 0, .string ⟨#[]⟩, .string ⟨#[]⟩, .slice none 0 0, .string ⟨#[]⟩, .bool false, .int .i64 0, .string ⟨#[]⟩, .slice none 0 0, .string ⟨#[]⟩, .int .i64 0, .string ⟨#[]⟩, .string ⟨#[]⟩, .string ⟨#[]⟩, .slice none 0 0, .slice none 0 0]
@[go_sem] theorem zl0_len : zl0.length = 18 := _root_.id rfl
@[go_sem] theorem zl0_one : zl0.all Value.oneCell' = true := _root_.id rfl
def zl1 : List Value := [.string ⟨#[]⟩, .bool false, .int .i64 0, .string ⟨#[]⟩, .string ⟨#[]⟩, .slice none 0 0, .string ⟨#[]⟩, .bool false, .int .i64 0, .string ⟨#[]⟩, .slice none 0 0, .slice none 0 0, .string ⟨#[]⟩, .string ⟨#[]⟩, .string ⟨#[]⟩, .slice none 0 0, .slice none 0 0, .slice none 0 0, .slice none 0 0, .int .i64 0]
@[go_sem] theorem zl1_len : zl1.length = 20 := _root_.id rfl
@[go_sem] theorem zl1_one : zl1.all Value.oneCell' = true := _root_.id rfl
@[go_sem] theorem tk3 : tk Tryz.prog 3 = some ⟨false, 1, [.int .i64 0], .int .i64⟩ := _root_.id (by kernel_rfl)
@[go_sem] theorem tk4 : tk Tryz.prog 4 = some ⟨false, 1, [.bool false], .bool⟩ := _root_.id (by kernel_rfl)
@[go_sem] theorem ib4 : isBool Tryz.prog 4 = true := _root_.id (by kernel_rfl)
@[go_sem] theorem tk5 : tk Tryz.prog 5 = some ⟨false, 1, [.int .u8 0], .int .u8⟩ := _root_.id (by kernel_rfl)
@[go_sem] theorem tk9 : tk Tryz.prog 9 = some ⟨false, 1, [.string ⟨#[]⟩], .str⟩ := _root_.id (by kernel_rfl)
@[go_sem] theorem tk20 : tk Tryz.prog 20 = some ⟨false, 1, [.nilIface], .iface⟩ := _root_.id (by kernel_rfl)
@[go_sem] theorem tk22 : tk Tryz.prog 22 = some ⟨false, 1, [.slice none 0 0], .sl 1 16 [.string ⟨#[]⟩] false⟩ := _root_.id (by kernel_rfl)
@[go_sem] theorem is22 : isSl Tryz.prog 22 = true := _root_.id (by kernel_rfl)
@[go_sem] theorem tk23 : tk Tryz.prog 23 = some ⟨false, 1, [.slice none 0 0], .sl 11 160 [.string ⟨#[]⟩, .bool false, .int .i64 0, .string ⟨#[]⟩, .string ⟨#[]⟩, .slice none 0 0, .string ⟨#[]⟩, .bool false, .int .i64 0, .string ⟨#[]⟩, .slice none 0 0] false⟩ := _root_.id (by kernel_rfl)
@[go_sem] theorem is23 : isSl Tryz.prog 23 = true := _root_.id (by kernel_rfl)
@[go_sem] theorem tk24 : tk Tryz.prog 24 = some ⟨false, 1, [.slice none 0 0], .sl 4 72 [.string ⟨#[]⟩, .string ⟨#[]⟩, .string ⟨#[]⟩, .slice none 0 0] false⟩ := _root_.id (by kernel_rfl)
@[go_sem] theorem is24 : isSl Tryz.prog 24 = true := _root_.id (by kernel_rfl)
@[go_sem] theorem tk26 : tk Tryz.prog 26 = some ⟨true, 4, [.slice none 0 0, .slice none 0 0, .slice none 0 0, .slice none 0 0], .st [(0, 1, false), (1, 1, false), (2, 1, false), (3, 1, false)]⟩ := _root_.id (by kernel_rfl)
@[go_sem] theorem tk31 : tk Tryz.prog 31 = some ⟨false, 1, [.int .i64 0], .int .i64⟩ := _root_.id (by kernel_rfl)
@[go_sem] theorem tk35 : tk Tryz.prog 35 = some ⟨true, 2, [.slice none 0 0, .slice none 0 0], .st [(0, 1, false), (1, 1, false)]⟩ := _root_.id (by kernel_rfl)
@[go_sem] theorem tk38 : tk Tryz.prog 38 = some ⟨true, 3, [.bool false, .int .i64 0, .string ⟨#[]⟩], .st [(0, 1, false), (1, 1, false), (2, 1, false)]⟩ := _root_.id (by kernel_rfl)
@[go_sem] theorem tk40 : tk Tryz.prog 40 = some ⟨true, 4, [.string ⟨#[]⟩, .bool false, .int .i64 0, .string ⟨#[]⟩], .st [(0, 1, false), (1, 3, true)]⟩ := _root_.id (by kernel_rfl)
@[go_sem] theorem tk41 : tk Tryz.prog 41 = some ⟨false, 1, [.slice none 0 0], .sl 4 48 [.string ⟨#[]⟩, .bool false, .int .i64 0, .string ⟨#[]⟩] false⟩ := _root_.id (by kernel_rfl)
@[go_sem] theorem is41 : isSl Tryz.prog 41 = true := _root_.id (by kernel_rfl)
@[go_sem] theorem tk42 : tk Tryz.prog 42 = some ⟨false, 1, [.slice none 0 0], .sl 10 136 [.string ⟨#[]⟩, .bool false, .int .i64 0, .string ⟨#[]⟩, .string ⟨#[]⟩, .slice none 0 0, .string ⟨#[]⟩, .bool false, .int .i64 0, .string ⟨#[]⟩] false⟩ := _root_.id (by kernel_rfl)
@[go_sem] theorem is42 : isSl Tryz.prog 42 = true := _root_.id (by kernel_rfl)
@[go_sem] theorem tk44 : tk Tryz.prog 44 = some ⟨true, 11, [.string ⟨#[]⟩, .bool false, .int .i64 0, .string ⟨#[]⟩, .string ⟨#[]⟩, .slice none 0 0, .string ⟨#[]⟩, .bool false, .int .i64 0, .string ⟨#[]⟩, .slice none 0 0], .st [(0, 4, true), (4, 1, false), (5, 1, false), (6, 4, true), (10, 1, false)]⟩ := _root_.id (by kernel_rfl)
@[go_sem] theorem tk45 : tk Tryz.prog 45 = some ⟨false, 1, [.slice none 0 0], .sl 3 32 [.bool false, .int .i64 0, .string ⟨#[]⟩] false⟩ := _root_.id (by kernel_rfl)
@[go_sem] theorem is45 : isSl Tryz.prog 45 = true := _root_.id (by kernel_rfl)
@[go_sem] theorem tk47 : tk Tryz.prog 47 = some ⟨true, 4, [.string ⟨#[]⟩, .string ⟨#[]⟩, .string ⟨#[]⟩, .slice none 0 0], .st [(0, 1, false), (1, 1, false), (2, 1, false), (3, 1, false)]⟩ := _root_.id (by kernel_rfl)
@[go_sem] theorem tk48 : tk Tryz.prog 48 = some ⟨false, 1, [.nilFunc], .other⟩ := _root_.id (by kernel_rfl)
@[go_sem] theorem tk54 : tk Tryz.prog 54 = some ⟨false, 1, [.pointer none], .ptr 56⟩ := _root_.id (by kernel_rfl)
@[go_sem] theorem ip54 : isPtr Tryz.prog 54 = true := _root_.id (by kernel_rfl)
@[go_sem] theorem tk56 : tk Tryz.prog 56 = some ⟨true, 4, [.slice none 0 0, .slice none 0 0, .int .i64 0, .bool false], .st [(0, 1, false), (1, 1, false), (2, 1, false), (3, 1, false)]⟩ := _root_.id (by kernel_rfl)
@[go_sem] theorem tk62 : tk Tryz.prog 62 = some ⟨true, 18, zl0, .st [(0, 11, true), (11, 1, false), (12, 1, false), (13, 4, true), (17, 1, false)]⟩ := _root_.id (by kernel_rfl)
@[go_sem] theorem tk63 : tk Tryz.prog 63 = some ⟨false, 1, [.slice none 0 0], .sl 1 24 [.slice none 0 0] false⟩ := _root_.id (by kernel_rfl)
@[go_sem] theorem is63 : isSl Tryz.prog 63 = true := _root_.id (by kernel_rfl)
@[go_sem] theorem tk69 : tk Tryz.prog 69 = some ⟨false, 1, [.nilFunc], .other⟩ := _root_.id (by kernel_rfl)
@[go_sem] theorem tk70 : tk Tryz.prog 70 = some ⟨false, 1, [.slice none 0 0], .sl 4 48 [.string ⟨#[]⟩, .bool false, .int .i64 0, .string ⟨#[]⟩] false⟩ := _root_.id (by kernel_rfl)
@[go_sem] theorem is70 : isSl Tryz.prog 70 = true := _root_.id (by kernel_rfl)
@[go_sem] theorem tk75 : tk Tryz.prog 75 = some ⟨true, 10, [.string ⟨#[]⟩, .bool false, .int .i64 0, .string ⟨#[]⟩, .string ⟨#[]⟩, .slice none 0 0, .string ⟨#[]⟩, .bool false, .int .i64 0, .string ⟨#[]⟩], .st [(0, 4, true), (4, 1, false), (5, 1, false), (6, 4, true)]⟩ := _root_.id (by kernel_rfl)
@[go_sem] theorem tk80 : tk Tryz.prog 80 = some ⟨true, 6, [.int .i64 0, .string ⟨#[]⟩, .string ⟨#[]⟩, .string ⟨#[]⟩, .slice none 0 0, .slice none 0 0], .st [(0, 1, false), (1, 4, true), (5, 1, false)]⟩ := _root_.id (by kernel_rfl)
@[go_sem] theorem tk87 : tk Tryz.prog 87 = some ⟨false, 1, [.nilFunc], .other⟩ := _root_.id (by kernel_rfl)
@[go_sem] theorem tk89 : tk Tryz.prog 89 = some ⟨false, 1, [.nilFunc], .other⟩ := _root_.id (by kernel_rfl)
@[go_sem] theorem tk97 : tk Tryz.prog 97 = some ⟨false, 1, [.pointer none], .ptr 99⟩ := _root_.id (by kernel_rfl)
@[go_sem] theorem ip97 : isPtr Tryz.prog 97 = true := _root_.id (by kernel_rfl)
@[go_sem] theorem tk99 : tk Tryz.prog 99 = some ⟨true, 3, [.slice none 0 0, .int .i64 0, .bool false], .st [(0, 1, false), (1, 1, false), (2, 1, false)]⟩ := _root_.id (by kernel_rfl)
@[go_sem] theorem tk102 : tk Tryz.prog 102 = some ⟨false, 1, [.slice none 0 0], .sl 1 8 [.int .i64 0] false⟩ := _root_.id (by kernel_rfl)
@[go_sem] theorem is102 : isSl Tryz.prog 102 = true := _root_.id (by kernel_rfl)
@[go_sem] theorem tk105 : tk Tryz.prog 105 = some ⟨false, 1, [.slice none 0 0], .sl 2 24 [.string ⟨#[]⟩, .int .i64 0] false⟩ := _root_.id (by kernel_rfl)
@[go_sem] theorem is105 : isSl Tryz.prog 105 = true := _root_.id (by kernel_rfl)
@[go_sem] theorem tk115 : tk Tryz.prog 115 = some ⟨true, 4, [.string ⟨#[]⟩, .bool false, .int .i64 0, .string ⟨#[]⟩], .st [(0, 1, false), (1, 3, true)]⟩ := _root_.id (by kernel_rfl)
@[go_sem] theorem tk122 : tk Tryz.prog 122 = some ⟨false, 1, [.nilFunc], .other⟩ := _root_.id (by kernel_rfl)
@[go_sem] theorem tk123 : tk Tryz.prog 123 = some ⟨false, 1, [.slice none 0 0], .sl 4 40 [.int .i64 0, .string ⟨#[]⟩, .int .i64 0, .int .i64 0] false⟩ := _root_.id (by kernel_rfl)
@[go_sem] theorem is123 : isSl Tryz.prog 123 = true := _root_.id (by kernel_rfl)
@[go_sem] theorem tk126 : tk Tryz.prog 126 = some ⟨false, 1, [.pointer none], .ptr 128⟩ := _root_.id (by kernel_rfl)
@[go_sem] theorem ip126 : isPtr Tryz.prog 126 = true := _root_.id (by kernel_rfl)
@[go_sem] theorem tk128 : tk Tryz.prog 128 = some ⟨true, 2, [.slice none 0 0, .int .i64 0], .st [(0, 1, false), (1, 1, false)]⟩ := _root_.id (by kernel_rfl)
@[go_sem] theorem tk130 : tk Tryz.prog 130 = some ⟨true, 2, [.int .i64 0, .int .i64 0], .st [(0, 1, false), (1, 1, false)]⟩ := _root_.id (by kernel_rfl)
@[go_sem] theorem tk138 : tk Tryz.prog 138 = some ⟨false, 1, [.nilFunc], .other⟩ := _root_.id (by kernel_rfl)
@[go_sem] theorem tk143 : tk Tryz.prog 143 = some ⟨false, 1, [.nilFunc], .other⟩ := _root_.id (by kernel_rfl)
@[go_sem] theorem tk149 : tk Tryz.prog 149 = some ⟨false, 1, [.pointer none], .ptr 151⟩ := _root_.id (by kernel_rfl)
@[go_sem] theorem ip149 : isPtr Tryz.prog 149 = true := _root_.id (by kernel_rfl)
@[go_sem] theorem tk151 : tk Tryz.prog 151 = some ⟨true, 20, zl1, .st [(0, 11, true), (11, 1, false), (12, 4, true), (16, 1, false), (17, 1, false), (18, 1, false), (19, 1, false)]⟩ := _root_.id (by kernel_rfl)
@[go_sem] theorem tk163 : tk Tryz.prog 163 = some ⟨false, 1, [.nilFunc], .other⟩ := _root_.id (by kernel_rfl)
@[go_sem] theorem tk166 : tk Tryz.prog 166 = some ⟨true, 4, [.int .i64 0, .string ⟨#[]⟩, .int .i64 0, .int .i64 0], .st [(0, 1, false), (1, 1, false), (2, 1, false), (3, 1, false)]⟩ := _root_.id (by kernel_rfl)
@[go_sem] theorem tk178 : tk Tryz.prog 178 = some ⟨false, 1, [.int .u64 0], .int .u64⟩ := _root_.id (by kernel_rfl)
@[go_sem] theorem tk185 : tk Tryz.prog 185 = some ⟨false, 1, [.nilFunc], .other⟩ := _root_.id (by kernel_rfl)
@[go_sem] theorem tk187 : tk Tryz.prog 187 = some ⟨true, 2, [.string ⟨#[]⟩, .int .i64 0], .st [(0, 1, false), (1, 1, false)]⟩ := _root_.id (by kernel_rfl)
@[go_sem] theorem tk195 : tk Tryz.prog 195 = some ⟨false, 1, [.int .i64 0], .int .i64⟩ := _root_.id (by kernel_rfl)
@[go_sem] theorem tk202 : tk Tryz.prog 202 = some ⟨false, 1, [.int .u32 0], .int .u32⟩ := _root_.id (by kernel_rfl)
@[go_sem] theorem tk204 : tk Tryz.prog 204 = some ⟨false, 1, [.int .u64 0], .int .u64⟩ := _root_.id (by kernel_rfl)
@[go_sem] theorem tk212 : tk Tryz.prog 212 = some ⟨false, 1, [.slice none 0 0], .sl 1 1 [.int .u8 0] true⟩ := _root_.id (by kernel_rfl)
@[go_sem] theorem is212 : isSl Tryz.prog 212 = true := _root_.id (by kernel_rfl)
@[go_sem] theorem tk213 : tk Tryz.prog 213 = some ⟨false, 1, [.int .u64 0], .int .u64⟩ := _root_.id (by kernel_rfl)
@[go_sem] theorem tk217 : tk Tryz.prog 217 = some ⟨false, 1, [.pointer none], .ptr 3⟩ := _root_.id (by kernel_rfl)
@[go_sem] theorem ip217 : isPtr Tryz.prog 217 = true := _root_.id (by kernel_rfl)
@[go_sem] theorem ic130 : isConc Tryz.prog 130 = true := _root_.id (by kernel_rfl)
end Go.Proofs.YthdfpankebjleaaGreat

/-
  Terms, literals, rules, facts, as they lie in memory; lists of numbers and texts.
  Conditions: none.
-/
namespace Go.Proofs.YthdfpankebjleaaGreat
open Go Go.Av

attribute [go_sem_proc] reduceIte Nat.reduceEqDiff Nat.reduceAdd Nat.reduceMul Nat.reduceSub Nat.reduceLT Nat.reduceLeDiff Int.reduceLE Int.reduceLT Int.reduceToNat Int.reduceEq
theorem meet_by {G : Prop} {R : Fr → St → Prop} (M : Fr → St → Prop) (h1 : (∀ fr σ, M fr σ → R fr σ) → G) (h2 : ∀ fr σ, M fr σ → R fr σ) : G := h1 h2
/-- A new row of zeros. -/
def aMkRow (σ : St) (q : Nat) (es : List (List AV)) (n c : Nat) (k : AV → St → Prop) : Prop := ∀ b, σ b = none → k (.v (.slice (some ⟨b, 0, none⟩) n c)) (σ.set b (.rows q es false c))
theorem aMkRow_intro {σ : St} {q n c : Nat} {es : List (List AV)} {k : AV → St → Prop} (h : ∀ b, σ b = none → (∀ x o, σ x = some o → x ≠ b) → k (.v (.slice (some ⟨b, 0, none⟩) n c)) (σ.set b (.rows q es false c))) : aMkRow σ q es n c k :=
  fun b hb => h b hb fun x o hx e => by subst e; rw [hb] at hx; cases hx
@[go_sem] theorem o_mksl {P : Program} {t : TypeId} {l c : Operand} {fr : Fr} {σ : St} {k : AV → St → Prop} : aOp P (.makeSlice t l c) fr σ k = aMkSl (tk P t) σ (fr.ev l) (fr.ev c) k := _root_.id rfl
@[go_sem] theorem mksl_v {σ : St} {k : AV → St → Prop} {ag byt : Bool} {sz q eby : Nat} {zr ez : List Value} {ik ik' : IntKind} {l c : Int} : aMkSl (some ⟨ag, sz, zr, .sl q eby ez byt⟩) σ (.v (.int ik l)) (.v (.int ik' c)) k = (0 < q ∧ 0 < eby ∧ ez.all Value.oneCell' = true ∧ 0 ≤ l ∧ l ≤ c ∧ (eby : Int) * c ≤ 281474976710656 ∧ aMkRow σ q (List.replicate l.toNat (ez.map .v)) l.toNat c.toNat k) := _root_.id rfl

abbrev ptr (b : Nat) : AV := .v (.pointer (some ⟨b, 0, none⟩))
abbrev int (n : Int) : AV := .v (.int .i64 n)
abbrev boo (b : Bool) : AV := .v (.bool b)
abbrev str (s : ByteArray) : AV := .v (.string s)
abbrev nilS : AV := .v (.slice none 0 0)
abbrev emp : ByteArray := ⟨#[]⟩

/-- A term: a variable, or a constant (a number or a text). -/
structure Tm where
  v : ByteArray
  b : Bool
  n : Int
  s : ByteArray
deriving DecidableEq
def Tm.cs (t : Tm) : List AV := [str t.v, boo t.b, int t.n, str t.s]
def Tm.zero : Tm := ⟨emp, false, 0, emp⟩
@[go_sem] theorem Tm.len (t : Tm) : t.cs.length = 4 := rfl
@[go_sem] theorem Tm.one (t : Tm) : t.cs.all AV.one = true := rfl
@[go_sem] theorem Tm.take (t : Tm) : t.cs.take 4 = t.cs := rfl
@[go_sem] theorem Tm.at0 (t : Tm) : t.cs.getD 0 (.v undef) = str t.v := rfl
def tmC (l : List Tm) : List (List AV) := l.map Tm.cs
@[go_sem] theorem tmC_len (l : List Tm) : (tmC l).length = l.length := by simp [tmC]
theorem tmC_get {l : List Tm} {i : Nat} (h : i < l.length) : (tmC l).getD i [] = l[i].cs := by simp [tmC, List.getD_eq_getElem?_getD, h]

/-- A literal: who says it, its name, its arguments, at whom. -/
structure Li where
  by' : Tm
  nm : ByteArray
  ar : List Tm
  at' : Tm
def Li.cs (l : Li) : List AV := [str l.by'.v, boo l.by'.b, int l.by'.n, str l.by'.s, str l.nm, .sl 4 (tmC l.ar), str l.at'.v, boo l.at'.b, int l.at'.n, str l.at'.s]
@[go_sem] theorem Li.len (l : Li) : l.cs.length = 10 := rfl
@[go_sem] theorem Li.one (l : Li) : l.cs.all AV.one = true := rfl
@[go_sem] theorem Li.take (l : Li) : l.cs.take 10 = l.cs := rfl
@[go_sem] theorem Li.at4 (l : Li) : l.cs.getD 4 (.v undef) = str l.nm := rfl
@[go_sem] theorem Li.at5 (l : Li) : l.cs.getD 5 (.v undef) = .sl 4 (tmC l.ar) := rfl
@[go_sem] theorem Li.at0 (l : Li) : l.cs.getD 0 (.v undef) = str l.by'.v := rfl
@[go_sem] theorem Li.at6 (l : Li) : l.cs.getD 6 (.v undef) = str l.at'.v := rfl
@[go_sem] theorem Li.by0 (l : Li) : l.cs.take 4 = l.by'.cs := rfl
@[go_sem] theorem Li.atm (l : Li) : (l.cs.drop 6).take 4 = l.at'.cs := rfl
@[go_sem] theorem Li.nm4 (l : Li) : (l.cs.drop 4).getD 0 (.v undef) = str l.nm := rfl
@[go_sem] theorem Li.ar5 (l : Li) : (l.cs.drop 5).getD 0 (.v undef) = .sl 4 (tmC l.ar) := rfl
@[go_sem] theorem Li.at60 (l : Li) : (l.cs.drop 6).getD 0 (.v undef) = str l.at'.v := rfl
def liC (l : List Li) : List (List AV) := l.map Li.cs
@[go_sem] theorem liC_len (l : List Li) : (liC l).length = l.length := by simp [liC]
theorem liC_get {l : List Li} {i : Nat} (h : i < l.length) : (liC l).getD i [] = l[i].cs := by simp [liC, List.getD_eq_getElem?_getD, h]

attribute [go_sem] Nat.le_refl Nat.zero_le Nat.zero_add Nat.add_zero Nat.mul_one Int.toNat_natCast Int.natCast_nonneg Int.cast_ofNat_Int ne_eq not_true_eq_false not_false_eq_true imp_self implies_true true_implies false_implies and_self List.length_map List.length_drop
def Li.zero : Li := ⟨.zero, emp, [], .zero⟩
/-- A rule: whose, its head, its body. -/
structure Rl where
  ho : Tm
  nm : ByteArray
  ar : List Tm
  at' : Tm
  bo : List Li
def Rl.cs (r : Rl) : List AV := [str r.ho.v, boo r.ho.b, int r.ho.n, str r.ho.s, str r.nm, .sl 4 (tmC r.ar), str r.at'.v, boo r.at'.b, int r.at'.n, str r.at'.s, .sl 10 (liC r.bo)]
@[go_sem] theorem Rl.len (r : Rl) : r.cs.length = 11 := rfl
@[go_sem] theorem Rl.one (r : Rl) : r.cs.all AV.one = true := rfl
@[go_sem] theorem Rl.take (r : Rl) : r.cs.take 11 = r.cs := rfl
@[go_sem] theorem Rl.at0 (r : Rl) : r.cs.getD 0 (.v undef) = str r.ho.v := rfl
@[go_sem] theorem Rl.at10 (r : Rl) : r.cs.getD 10 (.v undef) = .sl 10 (liC r.bo) := rfl
@[go_sem] theorem Rl.ho0 (r : Rl) : r.cs.take 4 = r.ho.cs := rfl
@[go_sem] theorem Rl.nm4 (r : Rl) : (r.cs.drop 4).getD 0 (.v undef) = str r.nm := rfl
@[go_sem] theorem Rl.ar5 (r : Rl) : (r.cs.drop 5).getD 0 (.v undef) = .sl 4 (tmC r.ar) := rfl
@[go_sem] theorem Rl.bo10 (r : Rl) : (r.cs.drop 10).getD 0 (.v undef) = .sl 10 (liC r.bo) := rfl

def inC (l : List Int) : List (List AV) := l.map fun n => [int n]
@[go_sem] theorem inC_len (l : List Int) : (inC l).length = l.length := by simp [inC]
theorem inC_get {l : List Int} {i : Nat} (h : i < l.length) : (inC l).getD i [] = [int l[i]] := by simp [inC, List.getD_eq_getElem?_getD, h]
def stC (l : List ByteArray) : List (List AV) := l.map fun s => [str s]
@[go_sem] theorem stC_len (l : List ByteArray) : (stC l).length = l.length := by simp [stC]
theorem stC_get {l : List ByteArray} {i : Nat} (h : i < l.length) : (stC l).getD i [] = [str l[i]] := by simp [stC, List.getD_eq_getElem?_getD, h]

/-- What can be read of a slice: of a frozen one, or of one that the walk owns. -/
def Rd (q : Nat) (σ : St) (lv : AV) (es : List (List AV)) : Prop := lv = .sl q es ∨ LAt q σ lv es
section
variable {q : Nat} {σ σ' : St} {lv : AV} {es : List (List AV)} {K : AV → Prop}
theorem Rd.sl : Rd q σ (.sl q es) es := .inl rfl
theorem Rd.of (h : LAt q σ lv es) : Rd q σ lv es := .inr h
theorem Rd.len {ag : Bool} {sz eby : Nat} {zr ez : List Value} {byt : Bool} (h : Rd q σ lv es) : aLen (some ⟨ag, sz, zr, .sl q eby ez byt⟩) lv K = K (.v (.int .i64 es.length)) := by
  rcases h with rfl | h
  · rfl
  · exact h.len
theorem Rd.elem {ag : Bool} {sz eby : Nat} {zr ez : List Value} {byt : Bool} {ik : IntKind} {j : Int} (h : Rd q σ lv es) (h0 : 0 ≤ j) (h1 : j < es.length)
    (hk : ∀ p, EAt q σ p (es.getD j.toNat []) 0 → K p) : aIadr (some ⟨ag, sz, zr, .sl q eby ez byt⟩) σ lv (.v (.int ik j)) K := by
  rcases h with rfl | h
  · exact ⟨rfl, h0, h1, hk _ (.inl (by simp))⟩
  · exact h.elem h0 h1 hk
theorem Rd.keep (h : Rd q σ lv es) (hs : ∀ x o, σ x = some o → σ' x = some o) : Rd q σ' lv es := h.imp _root_.id fun h => h.keep fun x o hx _ => hs x o hx
end
theorem lat_src {q : Nat} {byt : Bool} {σ : St} {lv : AV} {es : List (List AV)} (hq : 0 < q) (h : LAt q σ lv es) : src q byt σ lv = some es := by
  rcases h with ⟨rfl, rfl⟩ | rfl | ⟨b, cap, rfl, hc, hb⟩
  · simp [src]
  · simp [src]
  · simp only [src, hb]
    rw [if_pos ⟨trivial, by simp, by simp⟩]
    simp
theorem lat_set {q b : Nat} {o o' : AObj} {σ : St} {lv : AV} {es : List (List AV)} (h : LAt q σ lv es) (hb : σ b = some o) (hn : ¬ Own lv b) : LAt q (σ.set b o') lv es :=
  h.keep fun x p hx ho => by
    have : x ≠ b := fun e => by subst e; exact hn ho
    rw [set_ne this]; exact hx

end Go.Proofs.YthdfpankebjleaaGreat

/-
  The library's sort with a function that holds two elements against each other: rows that are sorted in place.
  Conditions: none.
-/
namespace Go.Proofs.YthdfpankebjleaaGreat
open Go Go.Av

abbrev fnv (g : Nat) : AV := .v (.func (.func g) #[] #[])
abbrev slv (b n c : Nat) : AV := .v (.slice (some ⟨b, 0, none⟩) n c)
/-- Less, by a comparison's sign. -/
def ltc {α : Type} (cf : α → α → Int) (x y : α) : Bool := decide (cf x y < 0)
/-- The elements' cells. -/
def rw' {α : Type} (en : α → List AV) (d : Array α) : List (List AV) := d.toList.map en
section
variable {α : Type} {en : α → List AV} {d : Array α}
@[go_sem] theorem rw_len : (rw' en d).length = d.size := by simp [rw']
theorem rw_get [Inhabited α] {j : Nat} (h : j < d.size) : (rw' en d).getD j [] = en d[j]! := by
  simp [rw', List.getD_eq_getElem?_getD, h]
theorem rw_set {j : Nat} {x : α} : (rw' en d).set j (en x) = rw' en (d.setIfInBounds j x) := by
  simp [rw']
theorem swp_size [Inhabited α] {i j : Nat} : (Go.Sort.swp d i j).size = d.size := by simp [Go.Sort.swp]
end
theorem sub_set {β σ : St} {b : Nat} {ob : AObj} (hn : β b = none) (hs : ∀ x o, β x = some o → σ x = some o) : ∀ x o, β x = some o → (σ.set b ob) x = some o := fun x o hx => by
  have : x ≠ b := fun e => by subst e; rw [hn] at hx; cases hx
  rw [set_ne this]; exact hs x o hx
theorem en_take {α : Type} {en : α → List AV} {q : Nat} (hl : ∀ x, (en x).length = q) (x : α) : (en x).take q = en x := List.take_of_length_le (by rw [hl]; omega)
theorem en_app {α : Type} {en : α → List AV} {q : Nat} (hl : ∀ x, (en x).length = q) (x y : α) : en x ++ List.drop q (en y) = en x := by rw [List.drop_eq_nil_of_le (by rw [hl]; omega), List.append_nil]
/-- The greater one of the children. -/
def chd {α : Type} [Inhabited α] (lt : α → α → Bool) (hi f r : Nat) (d : Array α) : Nat := if 2 * r + 2 < hi ∧ lt d[f + (2 * r + 1)]! d[f + (2 * r + 2)]! = true then 2 * r + 2 else 2 * r + 1
theorem sift_stop {α : Type} [Inhabited α] {lt : α → α → Bool} {hi f r : Nat} {d : Array α} (h : ¬ 2 * r + 1 < hi) : Go.Sort.siftDown lt hi f r d = d := by
  rw [Go.Sort.siftDown]
  rw [dif_pos (by omega)]
theorem sift_step {α : Type} [Inhabited α] {lt : α → α → Bool} {hi f r : Nat} {d : Array α} (h : 2 * r + 1 < hi) : Go.Sort.siftDown lt hi f r d = if lt d[f + r]! d[f + chd lt hi f r d]! = true then Go.Sort.siftDown lt hi f (chd lt hi f r d) (Go.Sort.swp d (f + r) (f + chd lt hi f r d)) else d := by
  rw [Go.Sort.siftDown]
  rw [dif_neg (by omega)]
  by_cases h1 : 2 * r + 1 + 1 < hi
  · by_cases h2 : lt d[f + (2 * r + 1)]! d[f + (2 * r + 1) + 1]! = true
    · have hc : chd lt hi f r d = 2 * r + 2 := by unfold chd; exact if_pos ⟨h1, h2⟩
      rw [hc, if_pos (by simp only [h1, h2, decide_true, Bool.and_self]), dif_pos h1]
      by_cases h3 : lt d[f + r]! d[f + (2 * r + 2)]! = true
      · simp only [h3, Bool.not_true, Bool.false_eq_true, if_false, if_true]
      · simp only [h3, Bool.not_false, Bool.false_eq_true, if_true, if_false]
    · have hc : chd lt hi f r d = 2 * r + 1 := by unfold chd; exact if_neg fun h => h2 h.2
      rw [hc, if_neg (by simp only [h1, decide_true, Bool.true_and]; exact h2)]
      by_cases h3 : lt d[f + r]! d[f + (2 * r + 1)]! = true
      · simp only [h3, Bool.not_true, Bool.false_eq_true, if_false, if_true]
      · simp only [h3, Bool.not_false, Bool.false_eq_true, if_true, if_false]
  · have hc : chd lt hi f r d = 2 * r + 1 := by unfold chd; exact if_neg fun h => h1 h.1
    rw [hc, if_neg (by simp only [h1, decide_false, Bool.false_and, Bool.false_eq_true, not_false_eq_true])]
    by_cases h3 : lt d[f + r]! d[f + (2 * r + 1)]! = true
    · simp only [h3, Bool.not_true, Bool.false_eq_true, if_false, if_true]
    · simp only [h3, Bool.not_false, Bool.false_eq_true, if_true, if_false]
theorem chd_lt {α : Type} [Inhabited α] {lt : α → α → Bool} {hi f r : Nat} {d : Array α} (h : 2 * r + 1 < hi) : chd lt hi f r d < hi ∧ r < chd lt hi f r d := by
  unfold chd
  split
  · rename_i h; exact ⟨h.1, by omega⟩
  · exact ⟨h, by omega⟩
end Go.Proofs.YthdfpankebjleaaGreat

/-
  Texts and numbers held against each other.
  Conditions: none.
-/
namespace Go.Proofs.YthdfpankebjleaaGreat
open Go Go.Av

def cmpS (x y : ByteArray) : Int := if Op.bytesLess x.toList y.toList = true then -1 else if x = y then 0 else 1
section
variable {σ : St}
theorem nanS_at (x : ByteArray) : AT Tryz.prog 122 [str x] σ fun r σ' => r = boo false ∧ σ' = σ := by
  refine AT.of_body Tryz.func122 rfl (by decide) (by kernel_rfl) (by kernel_rfl) (Nat.le_of_ble_eq_true rfl) ?_
  simp only [go_sem]
  exact aRet_as (r := boo false) rfl ⟨rfl, rfl⟩
theorem cmpS_at (x y : ByteArray) : AT Tryz.prog 81 [str x, str y] σ fun r σ' => r = int (cmpS x y) ∧ σ' = σ := by
  refine AT.of_body Tryz.func81 rfl (by decide) (by kernel_rfl) (by kernel_rfl) (Nat.le_of_ble_eq_true rfl) ?_
  simp only [go_sem]
  refine (nanS_at x).mono ?_
  rintro _ _ ⟨rfl, rfl⟩
  simp only [go_sem]
  refine (nanS_at y).mono ?_
  rintro _ _ ⟨rfl, rfl⟩
  simp only [go_sem]
  refine aIf_bool (fun h1 => ?_) (fun h1 => ?_)
  · simp only [go_sem]
    exact aRet_as (r := int (-1)) rfl ⟨by unfold cmpS; rw [if_pos h1], rfl⟩
  · by_cases h2 : x = y
    · have e : (Op.bytesLess x.toList y.toList || decide (x = y)) = true := by rw [decide_eq_true h2]; simp
      simp only [go_sem, e, Bool.not_true]
      exact aRet_as (r := int 0) rfl ⟨by unfold cmpS; rw [if_neg (by rw [h1]; decide), if_pos h2], rfl⟩
    · have e : (Op.bytesLess x.toList y.toList || decide (x = y)) = false := by rw [decide_eq_false h2, h1]; rfl
      simp only [go_sem, e, Bool.not_false]
      exact aRet_as (r := int 1) rfl ⟨by unfold cmpS; rw [if_neg (by rw [h1]; decide), if_neg h2], rfl⟩
def cmpI (x y : Int) : Int := if x < y then -1 else if x = y then 0 else 1
theorem nanI_at (x : Int) : AT Tryz.prog 155 [int x] σ fun r σ' => r = boo false ∧ σ' = σ := by
  refine AT.of_body Tryz.func155 rfl (by decide) (by kernel_rfl) (by kernel_rfl) (Nat.le_of_ble_eq_true rfl) ?_
  simp only [go_sem]
  exact aRet_as (r := boo false) rfl ⟨rfl, rfl⟩
theorem cmpI_at (x y : Int) : AT Tryz.prog 123 [int x, int y] σ fun r σ' => r = int (cmpI x y) ∧ σ' = σ := by
  refine AT.of_body Tryz.func123 rfl (by decide) (by kernel_rfl) (by kernel_rfl) (Nat.le_of_ble_eq_true rfl) ?_
  simp only [go_sem]
  refine (nanI_at x).mono ?_
  rintro _ _ ⟨rfl, rfl⟩
  simp only [go_sem]
  refine (nanI_at y).mono ?_
  rintro _ _ ⟨rfl, rfl⟩
  simp only [go_sem]
  refine aIf_by (fun h1 => ?_) (fun h1 => ?_)
  · simp only [go_sem]
    exact aRet_as (r := int (-1)) rfl ⟨by unfold cmpI; rw [if_pos h1], rfl⟩
  · simp only [go_sem]
    refine aIf_by (fun h2 => ?_) (fun h2 => ?_)
    · simp only [go_sem]
      exact aRet_as (r := int 1) rfl ⟨by unfold cmpI; rw [if_neg h1, if_neg (by omega)], rfl⟩
    · simp only [go_sem]
      exact aRet_as (r := int 0) rfl ⟨by unfold cmpI; rw [if_neg h1, if_pos (by omega)], rfl⟩
/-- The first that is not 0. -/
def orI : List Int → Int
  | [] => 0
  | x :: l => if x = 0 then orI l else x
theorem or_at (l : List Int) (hl : l.length ≤ 1000000) : AT Tryz.prog 80 [.fsl 1 (inC l)] σ fun r σ' => r = int (orI l) ∧ σ' = σ := by
  refine AT.of_body Tryz.func80 rfl (by decide) (by kernel_rfl) (by kernel_rfl) (Nat.le_of_ble_eq_true rfl) ?_
  simp only [go_sem, r_block]
  refine ⟨fun m fr σ' => ∃ i : Nat, m = l.length - i ∧ i ≤ l.length ∧ σ' = σ ∧ orI (l.drop i) = orI l ∧ fr 3 = int 0 ∧ fr 6 = .fsl 1 (inC l) ∧ fr 7 = int l.length ∧ fr 8 = int i, ⟨_, 0, rfl, by omega, rfl, rfl, rfl, rfl, rfl, rfl⟩, ?_⟩
  rintro m fr σ' ⟨i, rfl, hi, rfl, hI, f3, f6, f7, f8⟩
  simp only [go_sem, f7, f8]
  refine aIf_by (fun hlt => ?_) (fun hlt => ?_)
  · have hil : i < l.length := by omega
    have e : l.drop i = l[i] :: l.drop (i + 1) := List.drop_eq_getElem_cons hil
    have e2 : orI (l[i] :: l.drop (i + 1)) = if l[i] = 0 then orI (l.drop (i + 1)) else l[i] := rfl
    rw [e, e2] at hI
    simp only [go_sem, r_block, f3, f6, f8, inC_get hil]
    refine ⟨by omega, aIf_by (fun h0 => ?_) (fun h0 => ?_)⟩
    · rw [if_pos h0] at hI
      simp only [go_sem, f3, f6, f7, f8, next64 (show i < 9223372036854775807 by omega)]
      exact ⟨l.length - (i + 1), by omega, i + 1, rfl, by omega, hI, rfl⟩
    · rw [if_neg h0] at hI
      simp only [go_sem]
      rw [← hI]
      exact aRet_as (r := int _) rfl ⟨rfl, rfl⟩
  · simp only [go_sem, f3]
    rw [← hI, List.drop_of_length_le (by omega)]
    exact aRet_as (r := int 0) rfl ⟨rfl, rfl⟩
end
end Go.Proofs.YthdfpankebjleaaGreat

/-
  Constants held against each other.
  Conditions: none.
-/
namespace Go.Proofs.YthdfpankebjleaaGreat
open Go Go.Av

/-- A constant: is it a number?, the number, the text. -/
structure Cn where
  b : Bool
  n : Int
  s : ByteArray
deriving DecidableEq
def Cn.cs (c : Cn) : List AV := [boo c.b, int c.n, str c.s]
@[go_sem] theorem Cn.len (c : Cn) : c.cs.length = 3 := rfl
@[go_sem] theorem Cn.one (c : Cn) : c.cs.all AV.one = true := rfl
@[go_sem] theorem Cn.take (c : Cn) : c.cs.take 3 = c.cs := rfl
@[go_sem] theorem Cn.at0 (c : Cn) : c.cs.getD 0 (.v undef) = boo c.b := rfl
@[go_sem] theorem Cn.at1 (c : Cn) : c.cs.getD 1 (.v undef) = int c.n := rfl
@[go_sem] theorem Cn.at2 (c : Cn) : c.cs.getD 2 (.v undef) = str c.s := rfl
def cmpC (x y : Cn) : Int := if x.b = y.b then orI [cmpI x.n y.n, cmpS x.s y.s] else if x.b = true then -1 else 1
section
variable {σ : St}
theorem cmpC_at (x y : Cn) : AT Tryz.prog 83 [.agg x.cs, .agg y.cs] σ fun r σ' => r = int (cmpC x y) ∧ σ' = σ := by
  refine AT.of_body Tryz.func83 rfl (by decide) (by kernel_rfl) (by kernel_rfl) (Nat.le_of_ble_eq_true rfl) ?_
  simp only [go_sem]
  refine aNew_intro fun p hp hpn => ?_
  simp only [go_sem]
  refine aNew_intro fun q hq hqn => ?_
  have hpq : p ≠ q := hqn p _ set_same
  have h1 : ((σ.set p (.cells x.cs)).set q (.cells y.cs)) p = some (.cells x.cs) := by rw [set_ne hpq]; exact set_same
  have h2 : ((σ.set p (.cells x.cs)).set q (.cells y.cs)) q = some (.cells y.cs) := set_same
  have hd : ∀ r, View ((σ.set p (.cells x.cs)).set q (.cells y.cs)) r σ r := fun r => view_drop fun z o hz => set_sub hq (fun _ _ h => h) z o (set_sub hp (fun _ _ h => h) z o hz)
  revert h1 h2 hd
  generalize (σ.set p (.cells x.cs)).set q (.cells y.cs) = σ1
  intro h1 h2 hd
  by_cases hb : x.b = y.b
  · have e : decide (¬ x.b = y.b) = false := decide_eq_false fun h => h hb
    simp only [go_sem, h1, h2, e]
    refine aDraw_plan [.rd 0 false, .rd 1 true, .rd 2 false, .rd 3 true, .rd 5 false, .rd 6 true, .rd 7 false, .rd 8 true, .ef 4 [6, 8], .ef 9 [], .rd 10 false, .ef 11 [], .rd 12 false] (by kernel_rfl) (by kernel_rfl) (by kernel_rfl) ?_
    simp only [go_sem, h1, h2]
    refine (cmpI_at x.n y.n).mono ?_
    rintro _ _ ⟨rfl, rfl⟩
    simp only [go_sem, h1, h2]
    refine (cmpS_at x.s y.s).mono ?_
    rintro _ _ ⟨rfl, rfl⟩
    simp only [go_sem]
    refine (or_at [cmpI x.n y.n, cmpS x.s y.s] (by simp)).mono ?_
    rintro _ _ ⟨rfl, rfl⟩
    simp only [go_sem]
    exact aRet_view (r := int _) rfl _ σ (hd _) ⟨by unfold cmpC; rw [if_pos hb], rfl⟩
  · have e : decide (¬ x.b = y.b) = true := decide_eq_true hb
    simp only [go_sem, h1, h2, e]
    refine aIf_bool (fun g => ?_) (fun g => ?_)
    · simp only [go_sem]
      exact aRet_view (r := int (-1)) rfl _ σ (hd _) ⟨by unfold cmpC; rw [if_neg hb, if_pos g], rfl⟩
    · simp only [go_sem]
      exact aRet_view (r := int 1) rfl _ σ (hd _) ⟨by unfold cmpC; rw [if_neg hb, if_neg (by rw [g]; decide)], rfl⟩
end
end Go.Proofs.YthdfpankebjleaaGreat

/-
  Lists of constants held against each other; facts.
  Conditions: none.
-/
namespace Go.Proofs.YthdfpankebjleaaGreat
open Go Go.Av

def cnC (l : List Cn) : List (List AV) := l.map Cn.cs
@[go_sem] theorem cnC_len (l : List Cn) : (cnC l).length = l.length := by simp [cnC]
theorem cnC_get {l : List Cn} {i : Nat} (h : i < l.length) : (cnC l).getD i [] = l[i].cs := by simp [cnC, List.getD_eq_getElem?_getD, h]
/-- The first difference; the shorter one ahead. -/
def cmpL {α : Type} (c : α → α → Int) : List α → List α → Int
  | [], [] => 0
  | [], _ :: _ => -1
  | _ :: _, [] => 1
  | x :: l, y :: k => if c x y = 0 then cmpL c l k else c x y
section
variable {σ : St}
theorem cmpCs_at (l k : List Cn) (hl : l.length ≤ 1000000000) (hk : k.length ≤ 1000000000) : AT Tryz.prog 82 [.sl 3 (cnC l), .sl 3 (cnC k), fnv 83] σ fun r σ' => r = int (cmpL cmpC l k) ∧ σ' = σ := by
  refine AT.of_body Tryz.func82 rfl (by decide) (by kernel_rfl) (by kernel_rfl) (Nat.le_of_ble_eq_true rfl) ?_
  simp only [go_sem, r_block]
  refine ⟨fun m fr σ' => ∃ i : Nat, m = l.length - i ∧ i ≤ l.length ∧ i ≤ k.length ∧ (∀ x o, σ x = some o → σ' x = some o) ∧ cmpL cmpC (l.drop i) (k.drop i) = cmpL cmpC l k ∧ fr 0 = .sl 3 (cnC l) ∧ fr 1 = .sl 3 (cnC k) ∧ fr 2 = fnv 83 ∧ fr 11 = .sl 3 (cnC l) ∧ fr 12 = int l.length ∧ fr 13 = int i, ⟨_, 0, rfl, by omega, by omega, fun _ _ h => h, rfl, rfl, rfl, rfl, rfl, rfl, rfl⟩, ?_⟩
  rintro m fr σ1 ⟨i, rfl, h1, h2, hs, hI, f0, f1, f2, f11, f12, f13⟩
  simp only [go_sem, f12, f13]
  refine aIf_by (fun hlt => ?_) (fun hlt => ?_)
  · have hil : i < l.length := by omega
    have e1 : l.drop i = l[i] :: l.drop (i + 1) := List.drop_eq_getElem_cons hil
    rw [e1] at hI
    simp only [go_sem, r_block, f11, f13, cnC_get hil]
    refine ⟨by omega, aNew_intro fun p hp hpn => ?_⟩
    simp only [go_sem, f1, f11, f13]
    refine aIf_by (fun hge => ?_) (fun hge => ?_)
    · have e2 : k.drop i = [] := List.drop_of_length_le (by omega)
      rw [e2] at hI
      simp only [go_sem]
      rw [← hI]
      exact aRet_view (r := int 1) rfl _ σ (view_drop fun x o hx => by rw [set_ne (hpn x o (hs x o hx))]; exact hs x o hx) ⟨rfl, rfl⟩
    · have hik : i < k.length := by omega
      have e2 : k.drop i = k[i] :: k.drop (i + 1) := List.drop_eq_getElem_cons hik
      rw [e2] at hI
      have e3 : cmpL cmpC (l[i] :: l.drop (i + 1)) (k[i] :: k.drop (i + 1)) = if cmpC l[i] k[i] = 0 then cmpL cmpC (l.drop (i + 1)) (k.drop (i + 1)) else cmpC l[i] k[i] := rfl
      rw [e3] at hI
      simp only [go_sem, f1, f13, cnC_get hik, set_same]
      refine ⟨by omega, aNew_intro fun q hq hqn => ?_⟩
      have hpq : p ≠ q := hqn p _ set_same
      have k1 : ((σ1.set p (.cells l[i].cs)).set q (.cells k[i].cs)) p = some (.cells l[i].cs) := by rw [set_ne hpq]; exact set_same
      have k2 : ((σ1.set p (.cells l[i].cs)).set q (.cells k[i].cs)) q = some (.cells k[i].cs) := set_same
      have k3 : ∀ x o, σ x = some o → ((σ1.set p (.cells l[i].cs)).set q (.cells k[i].cs)) x = some o := fun x o hx => by
        have hq0 : x ≠ q := hqn x o (set_sub hp (fun _ _ h => h) x o (hs x o hx))
        rw [set_ne hq0, set_ne (hpn x o (hs x o hx))]; exact hs x o hx
      simp only [go_sem, set_same]
      revert k1 k2 k3
      generalize (σ1.set p (.cells l[i].cs)).set q (.cells k[i].cs) = σ2
      intro k1 k2 k3
      simp only [go_sem, k1, k2, f2]
      refine (cmpC_at l[i] k[i]).mono ?_
      rintro _ _ ⟨rfl, rfl⟩
      simp only [go_sem]
      refine aIf_by (fun h0 => ?_) (fun h0 => ?_)
      · rw [if_pos h0] at hI
        simp only [go_sem, f0, f1, f2, f11, f12, f13, next64 (show i < 9223372036854775807 by omega)]
        exact ⟨l.length - (i + 1), by omega, i + 1, rfl, by omega, by omega, k3, hI, rfl⟩
      · rw [if_neg h0] at hI
        simp only [go_sem]
        rw [← hI]
        exact aRet_view (r := int _) rfl _ σ (view_drop k3) ⟨rfl, rfl⟩
  · have e1 : l.drop i = [] := List.drop_of_length_le (by omega)
    rw [e1] at hI
    simp only [go_sem, f0, f1]
    refine aIf_by (fun h0 => ?_) (fun h0 => ?_)
    · obtain ⟨y, t, e2⟩ : ∃ y t, k.drop i = y :: t := ⟨k[i]'(by omega), k.drop (i + 1), List.drop_eq_getElem_cons (by omega)⟩
      rw [e2] at hI
      simp only [go_sem]
      rw [← hI]
      exact aRet_view (r := int (-1)) rfl _ σ (view_drop hs) ⟨rfl, rfl⟩
    · have e2 : k.drop i = [] := List.drop_of_length_le (by omega)
      rw [e2] at hI
      simp only [go_sem]
      rw [← hI]
      exact aRet_view (r := int 0) rfl _ σ (view_drop hs) ⟨rfl, rfl⟩
end
end Go.Proofs.YthdfpankebjleaaGreat

/-
  Facts held against each other.
  Conditions: none.
-/
namespace Go.Proofs.YthdfpankebjleaaGreat
open Go Go.Av

/-- A fact: where, by whom, its name, its arguments. -/
structure Fa where
  at' : ByteArray
  by' : ByteArray
  pr : ByteArray
  ar : List Cn
def Fa.cs (f : Fa) : List AV := [str f.at', str f.by', str f.pr, .sl 3 (cnC f.ar)]
@[go_sem] theorem Fa.len (f : Fa) : f.cs.length = 4 := rfl
@[go_sem] theorem Fa.one (f : Fa) : f.cs.all AV.one = true := rfl
@[go_sem] theorem Fa.take (f : Fa) : f.cs.take 4 = f.cs := rfl
@[go_sem] theorem Fa.at0 (f : Fa) : f.cs.getD 0 (.v undef) = str f.at' := rfl
@[go_sem] theorem Fa.at1 (f : Fa) : f.cs.getD 1 (.v undef) = str f.by' := rfl
@[go_sem] theorem Fa.at2 (f : Fa) : f.cs.getD 2 (.v undef) = str f.pr := rfl
@[go_sem] theorem Fa.at3 (f : Fa) : f.cs.getD 3 (.v undef) = .sl 3 (cnC f.ar) := rfl
def cmpF (x y : Fa) : Int := orI [cmpS x.at' y.at', cmpS x.by' y.by', cmpS x.pr y.pr, cmpL cmpC x.ar y.ar]
section
variable {σ : St}
theorem cmpF_at (x y : Fa) (hx : x.ar.length ≤ 1000000000) (hy : y.ar.length ≤ 1000000000) : AT Tryz.prog 41 [.agg x.cs, .agg y.cs] σ fun r σ' => r = int (cmpF x y) ∧ σ' = σ := by
  refine AT.of_body Tryz.func41 rfl (by decide) (by kernel_rfl) (by kernel_rfl) (Nat.le_of_ble_eq_true rfl) ?_
  simp only [go_sem]
  refine aNew_intro fun p hp hpn => ?_
  simp only [go_sem]
  refine aNew_intro fun q hq hqn => ?_
  have hpq : p ≠ q := hqn p _ set_same
  have h1 : ((σ.set p (.cells x.cs)).set q (.cells y.cs)) p = some (.cells x.cs) := by rw [set_ne hpq]; exact set_same
  have h2 : ((σ.set p (.cells x.cs)).set q (.cells y.cs)) q = some (.cells y.cs) := set_same
  have hd : ∀ r, View ((σ.set p (.cells x.cs)).set q (.cells y.cs)) r σ r := fun r => view_drop fun z o hz => set_sub hq (fun _ _ h => h) z o (set_sub hp (fun _ _ h => h) z o hz)
  revert h1 h2 hd
  generalize (σ.set p (.cells x.cs)).set q (.cells y.cs) = σ1
  intro h1 h2 hd
  simp only [go_sem]
  refine aDraw_plan [.rd 0 false, .rd 1 true, .rd 2 false, .rd 3 true, .rd 5 false, .rd 6 true, .rd 7 false, .rd 8 true, .rd 10 false, .rd 11 true, .rd 12 false, .rd 13 true, .rd 15 false, .rd 16 true, .rd 17 false, .rd 18 true, .ef 4 [6, 8, 11, 13, 16, 18], .ef 9 [11, 13, 16, 18], .ef 14 [16, 18], .ef 19 [], .rd 20 false, .ef 21 [], .rd 22 false] (by kernel_rfl) (by kernel_rfl) (by kernel_rfl) ?_
  simp only [go_sem, h1, h2]
  refine (cmpS_at x.at' y.at').mono ?_
  rintro _ _ ⟨rfl, rfl⟩
  simp only [go_sem, h1, h2]
  refine (cmpS_at x.by' y.by').mono ?_
  rintro _ _ ⟨rfl, rfl⟩
  simp only [go_sem, h1, h2]
  refine (cmpS_at x.pr y.pr).mono ?_
  rintro _ _ ⟨rfl, rfl⟩
  simp only [go_sem, h1, h2]
  refine (cmpCs_at x.ar y.ar hx hy).mono ?_
  rintro _ _ ⟨rfl, rfl⟩
  simp only [go_sem]
  refine (or_at [cmpS x.at' y.at', cmpS x.by' y.by', cmpS x.pr y.pr, cmpL cmpC x.ar y.ar] (by simp)).mono ?_
  rintro _ _ ⟨rfl, rfl⟩
  simp only [go_sem]
  exact aRet_view (r := int _) rfl _ σ (hd _) ⟨rfl, rfl⟩
end
end Go.Proofs.YthdfpankebjleaaGreat

/-
  Comparisons that are whole orders: texts, numbers, constants, lists of them, facts.
  Conditions: none.
-/
namespace Go.Proofs.YthdfpankebjleaaGreat
open Go Go.Av

/-- A comparison that orders all, by its sign; 0 only of a thing and itself. -/
structure Ord3 {α : Type} (c : α → α → Int) : Prop where
  zero : ∀ x y, c x y = 0 ↔ x = y
  anti : ∀ x y, c x y < 0 ↔ 0 < c y x
  trans : ∀ x y z, c x y < 0 → c y z < 0 → c x z < 0

theorem Ord3.self {α : Type} {c : α → α → Int} (h : Ord3 c) (x : α) : c x x = 0 := (h.zero x x).2 rfl
theorem Ord3.swo {α : Type} {c : α → α → Int} (h : Ord3 c) : Go.Sort.SWO (ltc c) where
  irrefl x := by unfold ltc; rw [h.self]; rfl
  trans x y z h1 h2 := by
    unfold ltc at *
    simp only [decide_eq_true_eq] at *
    exact h.trans x y z h1 h2
  ntrans x y z h1 h2 := by
    unfold ltc at *
    simp only [decide_eq_false_iff_not] at *
    intro h3
    by_cases e1 : c x y = 0
    · rw [(h.zero x y).1 e1] at h3; exact h2 h3
    · by_cases e2 : c y z = 0
      · rw [← (h.zero y z).1 e2] at h3; exact h1 h3
      · have a1 : c y x < 0 := (h.anti y x).2 (by omega)
        have a2 : c z y < 0 := (h.anti z y).2 (by omega)
        have a3 := h.trans z y x a2 a1
        have := (h.anti z x).1 a3
        omega
theorem Ord3.of_iff {α : Type} {c c' : α → α → Int} (h : Ord3 c) (hz : ∀ x y, c' x y = 0 ↔ c x y = 0) (hl : ∀ x y, c' x y < 0 ↔ c x y < 0) : Ord3 c' where
  zero x y := (hz x y).trans (h.zero x y)
  anti x y := by
    have h1 := hl x y
    have h2 := hl y x
    have h3 := hz y x
    have h4 := h.anti x y
    constructor <;> intro <;> omega
  trans x y z h1 h2 := (hl x z).2 (h.trans x y z ((hl x y).1 h1) ((hl y z).1 h2))

theorem cmpI_ord : Ord3 cmpI where
  zero x y := by unfold cmpI; repeat' split
                 all_goals omega
  anti x y := by unfold cmpI; repeat' split
                 all_goals omega
  trans x y z := by unfold cmpI; repeat' split
                    all_goals omega

theorem bl_irrefl : ∀ x : List UInt8, Op.bytesLess x x = false
  | [] => rfl
  | a :: x => by
    unfold Op.bytesLess
    rw [bl_irrefl x]
    simp
theorem bl_trans : ∀ x y z : List UInt8, Op.bytesLess x y = true → Op.bytesLess y z = true → Op.bytesLess x z = true
  | _, [], _, h, _ => by unfold Op.bytesLess at h; cases h
  | _, _ :: _, [], _, h => by unfold Op.bytesLess at h; cases h
  | [], _ :: _, _ :: _, _, _ => by unfold Op.bytesLess; rfl
  | a :: x, b :: y, c :: z, h1, h2 => by
    unfold Op.bytesLess at *
    simp only [Bool.or_eq_true, Bool.and_eq_true, decide_eq_true_eq, beq_iff_eq] at *
    rcases h1 with h1 | ⟨rfl, h1⟩
    · rcases h2 with h2 | ⟨rfl, h2⟩
      · exact .inl (UInt8.lt_trans h1 h2)
      · exact .inl h1
    · rcases h2 with h2 | ⟨rfl, h2⟩
      · exact .inl h2
      · exact .inr ⟨rfl, bl_trans x y z h1 h2⟩
theorem bl_total : ∀ x y : List UInt8, x = y ∨ Op.bytesLess x y = true ∨ Op.bytesLess y x = true
  | [], [] => .inl rfl
  | [], _ :: _ => .inr (.inl (by unfold Op.bytesLess; rfl))
  | _ :: _, [] => .inr (.inr (by unfold Op.bytesLess; rfl))
  | a :: x, b :: y => by
    unfold Op.bytesLess
    simp only [Bool.or_eq_true, Bool.and_eq_true, decide_eq_true_eq, beq_iff_eq]
    rcases UInt8.lt_or_lt_of_ne (a := a) (b := b) |> (fun f => Classical.em (a = b) |>.elim (fun h => Or.inl h) fun h => Or.inr (f h)) with h | h
    · subst h
      rcases bl_total x y with h | h | h
      · exact .inl (by rw [h])
      · exact .inr (.inl (.inr ⟨rfl, h⟩))
      · exact .inr (.inr (.inr ⟨rfl, h⟩))
    · rcases h with h | h
      · exact .inr (.inl (.inl h))
      · exact .inr (.inr (.inl h))
theorem toList_inj {x y : ByteArray} (h : x.toList = y.toList) : x = y := by
  have := toList_beq x y
  rw [h, beq_self_eq_true] at this
  exact of_decide_eq_true this.symm
theorem cmpS_lt {x y : ByteArray} : cmpS x y < 0 ↔ Op.bytesLess x.toList y.toList = true := by
  unfold cmpS
  split
  · rename_i h; simp [h]
  · rename_i h; split <;> simp [h]
theorem cmpS_zero {x y : ByteArray} : cmpS x y = 0 ↔ x = y := by
  unfold cmpS
  split
  · rename_i h
    constructor
    · intro h'; omega
    · rintro rfl; rw [bl_irrefl] at h; cases h
  · split
    · rename_i h; simp [h]
    · rename_i h; simp [h]
theorem cmpS_ord : Ord3 cmpS where
  zero x y := cmpS_zero
  anti x y := by
    rw [cmpS_lt]
    constructor
    · intro h
      have h1 : ¬ cmpS y x < 0 := fun h' => by
        have := bl_trans _ _ _ h (cmpS_lt.1 h')
        rw [bl_irrefl] at this; cases this
      have h2 : cmpS y x ≠ 0 := fun h' => by
        rw [cmpS_zero.1 h', bl_irrefl] at h; cases h
      omega
    · intro h
      rcases bl_total x.toList y.toList with h' | h' | h'
      · rw [toList_inj h', cmpS_zero.2 rfl] at h; omega
      · exact h'
      · have := cmpS_lt.2 h'; omega
  trans x y z h1 h2 := cmpS_lt.2 (bl_trans _ _ _ (cmpS_lt.1 h1) (cmpS_lt.1 h2))

/-- One comparison, and where it says the same another one. -/
def lex2 {α : Type} (c d : α → α → Int) (x y : α) : Int := if c x y = 0 then d x y else c x y
/-- Less by c or the same by c, and so on: c a comparison by a part. -/
structure Pre3 {α : Type} (c : α → α → Int) : Prop where
  self : ∀ x, c x x = 0
  anti : ∀ x y, c x y < 0 ↔ 0 < c y x
  trans : ∀ x y z, c x y ≤ 0 → c y z ≤ 0 → c x z ≤ 0 ∧ (c x z = 0 → c x y = 0 ∧ c y z = 0)
theorem Ord3.pre {α β : Type} {c : β → β → Int} (h : Ord3 c) (f : α → β) : Pre3 fun x y => c (f x) (f y) where
  self x := h.self _
  anti x y := h.anti _ _
  trans x y z h1 h2 := by
    by_cases e1 : c (f x) (f y) = 0
    · rw [(h.zero _ _).1 e1]
      exact ⟨h2, fun h3 => ⟨h.self _, h3⟩⟩
    · by_cases e2 : c (f y) (f z) = 0
      · rw [← (h.zero _ _).1 e2]
        exact ⟨h1, fun h3 => ⟨h3, h.self _⟩⟩
      · have := h.trans (f x) (f y) (f z) (by omega) (by omega)
        exact ⟨by omega, fun h3 => by omega⟩
theorem Pre3.zero_symm {α : Type} {c : α → α → Int} (h : Pre3 c) {x y : α} (h0 : c x y = 0) : c y x = 0 := by
  have h1 := h.anti x y
  have h2 := h.anti y x
  omega
theorem Pre3.lex {α : Type} {c d : α → α → Int} (h : Pre3 c) (g : Pre3 d) : Pre3 (lex2 c d) where
  self x := by unfold lex2; rw [if_pos (h.self x), g.self]
  anti x y := by
    unfold lex2
    have h1 := h.anti x y
    have h2 := h.anti y x
    have h3 := g.anti x y
    split <;> split <;> omega
  trans x y z := by
    unfold lex2
    intro h1 h2
    by_cases e1 : c x y = 0
    · rw [if_pos e1] at h1 ⊢
      by_cases e2 : c y z = 0
      · rw [if_pos e2] at h2 ⊢
        obtain ⟨t1, t2⟩ := h.trans x y z (by omega) (by omega)
        have t3 := h.trans z y x (by have := h.zero_symm e2; omega) (by have := h.zero_symm e1; omega)
        have t4 := h.anti x z
        have t5 := h.anti z x
        have e3 : c x z = 0 := by omega
        rw [if_pos e3]
        exact g.trans x y z h1 h2
      · rw [if_neg e2] at h2 ⊢
        obtain ⟨t1, t2⟩ := h.trans x y z (by omega) (by omega)
        have e3 : c x z ≠ 0 := fun e => e2 (t2 e).2
        rw [if_neg e3]
        exact ⟨t1, fun e => absurd e e3⟩
    · rw [if_neg e1] at h1 ⊢
      have h2' : c y z ≤ 0 := by split at h2 <;> omega
      obtain ⟨t1, t2⟩ := h.trans x y z (by omega) h2'
      have e3 : c x z ≠ 0 := fun e => e1 (t2 e).1
      rw [if_neg e3]
      exact ⟨t1, fun e => absurd e e3⟩
theorem Pre3.ord {α : Type} {c : α → α → Int} (h : Pre3 c) (h0 : ∀ x y, c x y = 0 → x = y) : Ord3 c where
  zero x y := ⟨h0 x y, fun e => by rw [e]; exact h.self y⟩
  anti := h.anti
  trans x y z h1 h2 := by
    obtain ⟨t1, t2⟩ := h.trans x y z (by omega) (by omega)
    have : c x z ≠ 0 := fun e => by have := (t2 e).1; omega
    omega

/-- Lists: the first difference; the shorter one ahead. -/
theorem cmpL_ord {α : Type} {c : α → α → Int} (h : Ord3 c) : Ord3 (cmpL c) := by
  have e : ∀ (x y : α) (l k : List α), cmpL c (x :: l) (y :: k) = if c x y = 0 then cmpL c l k else c x y := fun _ _ _ _ => rfl
  have hz : ∀ l k : List α, cmpL c l k = 0 ↔ l = k := by
    intro l
    induction l with
    | nil => intro k; cases k <;> simp [cmpL]
    | cons x l ih =>
      intro k
      cases k with
      | nil => simp [cmpL]
      | cons y k =>
        rw [e]
        by_cases h0 : c x y = 0
        · rw [if_pos h0, ih, (h.zero x y).1 h0]; simp
        · rw [if_neg h0]
          exact ⟨fun h' => absurd h' h0, fun h' => absurd ((h.zero x y).2 (List.cons.inj h').1) h0⟩
  have ha : ∀ l k : List α, cmpL c l k < 0 ↔ 0 < cmpL c k l := by
    intro l
    induction l with
    | nil => intro k; cases k <;> simp [cmpL]
    | cons x l ih =>
      intro k
      cases k with
      | nil => simp [cmpL]
      | cons y k =>
        rw [e, e]
        have h1 := h.anti x y
        have h2 := h.anti y x
        have h3 := ih k
        split <;> split <;> omega
  refine ⟨hz, ha, ?_⟩
  intro l
  induction l with
  | nil =>
    intro k m h1 h2
    cases k with
    | nil => simp [cmpL] at h1
    | cons y k =>
      cases m with
      | nil => simp [cmpL] at h2
      | cons z m => simp [cmpL]
  | cons x l ih =>
    intro k m h1 h2
    cases k with
    | nil => simp [cmpL] at h1
    | cons y k =>
      cases m with
      | nil => simp [cmpL] at h2
      | cons z m =>
        rw [e] at *
        by_cases e1 : c x y = 0
        · rw [if_pos e1] at h1
          rw [(h.zero x y).1 e1]
          by_cases e2 : c y z = 0
          · rw [if_pos e2] at h2 ⊢
            exact ih k m h1 h2
          · rw [if_neg e2] at h2 ⊢
            exact h2
        · rw [if_neg e1] at h1
          by_cases e2 : c y z = 0
          · rw [← (h.zero y z).1 e2, if_neg e1]
            exact h1
          · rw [if_neg e2] at h2
            have := h.trans x y z h1 h2
            rw [if_neg (by omega)]
            exact this

theorem orI2 (a b : Int) : orI [a, b] = if a = 0 then b else a := by
  simp only [orI]
  split
  · split
    · rename_i h; exact h.symm
    · rfl
  · rfl
def cmpN (x y : Cn) : Int := if x.b = y.b then 0 else if x.b = true then -1 else 1
theorem cmpN_pre : Pre3 cmpN := by
  refine ⟨fun x => by simp [cmpN], fun x y => ?_, fun x y z => ?_⟩
  · unfold cmpN; cases x.b <;> cases y.b <;> simp
  · unfold cmpN; cases x.b <;> cases y.b <;> cases z.b <;> simp
theorem cmpN_zero {x y : Cn} : cmpN x y = 0 ↔ x.b = y.b := by
  unfold cmpN; cases x.b <;> cases y.b <;> simp
theorem cmpC_eq (x y : Cn) : cmpC x y = lex2 cmpN (lex2 (fun x y : Cn => cmpI x.n y.n) fun x y : Cn => cmpS x.s y.s) x y := by
  unfold cmpC lex2
  rw [orI2]
  by_cases hb : x.b = y.b
  · rw [if_pos hb, if_pos (cmpN_zero.2 hb)]
  · rw [if_neg hb, if_neg (fun h => hb (cmpN_zero.1 h))]
    unfold cmpN
    rw [if_neg hb]
theorem lex2_zero {α : Type} {c d : α → α → Int} {x y : α} (h : lex2 c d x y = 0) : c x y = 0 ∧ d x y = 0 := by
  unfold lex2 at h
  split at h
  · rename_i h0; exact ⟨h0, h⟩
  · rename_i h0; exact absurd h h0
theorem cmpC_ord : Ord3 cmpC := by
  have p := cmpN_pre.lex ((cmpI_ord.pre Cn.n).lex (cmpS_ord.pre Cn.s))
  rw [show cmpC = _ from funext fun x => funext fun y => cmpC_eq x y]
  refine p.ord fun x y h => ?_
  obtain ⟨h1, h⟩ := lex2_zero h
  obtain ⟨h2, h3⟩ := lex2_zero h
  cases x; cases y
  have e1 := cmpN_zero.1 h1
  have e2 := (cmpI_ord.zero _ _).1 h2
  have e3 := (cmpS_ord.zero _ _).1 h3
  simp only at e1 e2 e3
  rw [e1, e2, e3]
theorem cmpF_eq (x y : Fa) : cmpF x y = lex2 (fun x y : Fa => cmpS x.at' y.at') (lex2 (fun x y : Fa => cmpS x.by' y.by') (lex2 (fun x y : Fa => cmpS x.pr y.pr) fun x y : Fa => cmpL cmpC x.ar y.ar)) x y := by
  unfold cmpF lex2
  simp only [orI]
  split
  · split
    · split
      · split
        · rename_i h; exact h.symm
        · rfl
      · rfl
    · rfl
  · rfl
theorem cmpF_ord : Ord3 cmpF := by
  have p := (cmpS_ord.pre Fa.at').lex ((cmpS_ord.pre Fa.by').lex ((cmpS_ord.pre Fa.pr).lex ((cmpL_ord cmpC_ord).pre Fa.ar)))
  rw [show cmpF = _ from funext fun x => funext fun y => cmpF_eq x y]
  refine p.ord fun x y h => ?_
  obtain ⟨h1, h⟩ := lex2_zero h
  obtain ⟨h2, h⟩ := lex2_zero h
  obtain ⟨h3, h4⟩ := lex2_zero h
  cases x; cases y
  have e1 := (cmpS_ord.zero _ _).1 h1
  have e2 := (cmpS_ord.zero _ _).1 h2
  have e3 := (cmpS_ord.zero _ _).1 h3
  have e4 := ((cmpL_ord cmpC_ord).zero _ _).1 h4
  simp only at e1 e2 e3 e4
  rw [e1, e2, e3, e4]
instance decFa : DecidableEq Fa := fun x y => decidable_of_iff (cmpF x y = 0) (cmpF_ord.zero x y)
/-- Lists of facts. -/
def cmpB : List Fa → List Fa → Int := cmpL cmpF
theorem cmpB_ord : Ord3 cmpB := cmpL_ord cmpF_ord
end Go.Proofs.YthdfpankebjleaaGreat

/-
  Bindings; a term's value; terms made constants; a literal made a fact; in which order makes no difference.
  Conditions: none.
-/
namespace Go.Proofs.YthdfpankebjleaaGreat
open Go Go.Av

def Tm.val (t : Tm) : Cn := ⟨t.b, t.n, t.s⟩
/-- A binding: a variable, and its constant. -/
structure Bi where
  v : ByteArray
  c : Cn
deriving DecidableEq
def Bi.cs (x : Bi) : List AV := [str x.v, boo x.c.b, int x.c.n, str x.c.s]
@[go_sem] theorem Bi.len (x : Bi) : x.cs.length = 4 := rfl
@[go_sem] theorem Bi.one (x : Bi) : x.cs.all AV.one = true := rfl
@[go_sem] theorem Bi.take (x : Bi) : x.cs.take 4 = x.cs := rfl
@[go_sem] theorem Bi.at0 (x : Bi) : x.cs.getD 0 (.v undef) = str x.v := rfl
def biC (l : List Bi) : List (List AV) := l.map Bi.cs
@[go_sem] theorem biC_len (l : List Bi) : (biC l).length = l.length := by simp [biC]
theorem biC_get {l : List Bi} {i : Nat} (h : i < l.length) : (biC l).getD i [] = l[i].cs := by simp [biC, List.getD_eq_getElem?_getD, h]

def look : List Bi → ByteArray → Option Cn
  | [], _ => none
  | x :: l, v => if x.v = v then some x.c else look l v
def valF (t : Tm) (env : List Bi) : Option Cn := if t = .zero then none else if t.v = emp then some t.val else look env t.v
def uniF (t : Tm) (c : Cn) (env : List Bi) : Option (List Bi) :=
  match valF t env with
  | some x => if x = c then some env else none
  | none => if t.v = emp then none else some (env ++ [⟨t.v, c⟩])
def nmC (s : ByteArray) : Cn := ⟨false, 0, s⟩
def uniS : List (Tm × Cn) → List Bi → Option (List Bi)
  | [], e => some e
  | p :: l, e => (uniF p.1 p.2 e).bind (uniS l)
def orT (a b : Tm) : Tm := if a = .zero then b else a
def fits (l : Li) (f : Fa) : Bool := decide (l.nm = f.pr) && decide (l.ar.length = f.ar.length) && (decide (l.by' ≠ .zero) || decide (f.by' = f.at'))
def eqs (ho : Tm) (l : Li) (f : Fa) : List (Tm × Cn) := (orT l.at' ho, nmC f.at') :: ((if l.by' = .zero then [] else [(l.by', nmC f.by')]) ++ l.ar.zip f.ar)
/-- What a literal, made a fact, binds. -/
def litF (ho : Tm) (l : Li) (f : Fa) (env : List Bi) : Option (List Bi) := if fits l f = true then uniS (eqs ho l f) env else none

/-! ### By all values of all variables -/
def Ext (ρ : ByteArray → Cn) (env : List Bi) : Prop := ∀ v c, look env v = some c → ρ v = c
def Sat (ρ : ByteArray → Cn) (p : Tm × Cn) : Prop := p.1 ≠ .zero ∧ if p.1.v = emp then p.1.val = p.2 else ρ p.1.v = p.2
def Sats (ρ : ByteArray → Cn) (l : List (Tm × Cn)) : Prop := ∀ p ∈ l, Sat ρ p
theorem ext_nil {ρ : ByteArray → Cn} : Ext ρ [] := fun v c h => by cases h
theorem look_app (v : ByteArray) (y : Bi) : ∀ env : List Bi, look (env ++ [y]) v = match look env v with
    | some c => some c
    | none => if y.v = v then some y.c else none
  | [] => rfl
  | x :: l => by
    rw [List.cons_append]
    unfold look
    split
    · rfl
    · exact look_app v y l
theorem ext_ex (env : List Bi) : ∃ ρ, Ext ρ env := ⟨fun v => (look env v).getD ⟨false, 0, emp⟩, fun v c h => by simp [h]⟩
theorem look_iff {e : List Bi} {v : ByteArray} {c : Cn} : look e v = some c ↔ ∀ ρ, Ext ρ e → ρ v = c := by
  constructor
  · exact fun h ρ hρ => hρ v c h
  · intro h
    cases h' : look e v with
    | some d =>
      obtain ⟨ρ, hρ⟩ := ext_ex e
      rw [← h ρ hρ, hρ v d h']
    | none =>
      have h1 := h (fun w => (look e w).getD ⟨!c.b, 0, emp⟩) fun w d hd => by simp [hd]
      rw [h'] at h1
      have h2 := congrArg Cn.b h1
      simp at h2
def Eqv (e e' : List Bi) : Prop := ∀ v, look e v = look e' v
theorem eqv_of {e e' : List Bi} (h : ∀ ρ, Ext ρ e ↔ Ext ρ e') : Eqv e e' := fun v => by
  cases h1 : look e v with
  | some c => exact (look_iff.2 fun ρ hρ => look_iff.1 h1 ρ ((h ρ).2 hρ)).symm
  | none =>
    cases h2 : look e' v with
    | none => rfl
    | some c =>
      have := look_iff.2 fun ρ hρ => look_iff.1 h2 ρ ((h ρ).1 hρ)
      rw [h1] at this
      exact this
theorem Eqv.ext {e e' : List Bi} (h : Eqv e e') (ρ : ByteArray → Cn) : Ext ρ e ↔ Ext ρ e' := by
  unfold Ext
  constructor <;> intro h' v c hv
  · exact h' v c (by rw [h v]; exact hv)
  · exact h' v c (by rw [← h v]; exact hv)
theorem Eqv.refl (e : List Bi) : Eqv e e := fun _ => rfl

theorem uni_some {t : Tm} {c : Cn} {env e : List Bi} (h : uniF t c env = some e) (ρ : ByteArray → Cn) : Ext ρ e ↔ Ext ρ env ∧ Sat ρ (t, c) := by
  unfold uniF at h
  cases hv : valF t env with
  | some x =>
    rw [hv] at h
    simp only at h
    split at h
    · rename_i hx
      subst hx
      injection h with h
      subst h
      unfold valF at hv
      split at hv
      · cases hv
      · rename_i h0
        refine ⟨fun hρ => ⟨hρ, h0, ?_⟩, fun h => h.1⟩
        split at hv
        · rename_i h1
          injection hv with hv
          rw [if_pos h1]; exact hv
        · rename_i h1
          rw [if_neg h1]; exact hρ _ _ hv
    · cases h
  | none =>
    rw [hv] at h
    simp only at h
    split at h
    · cases h
    · rename_i h1
      injection h with h
      subst h
      have h0 : t ≠ .zero := fun e => h1 (by rw [e]; rfl)
      unfold valF at hv
      rw [if_neg h0, if_neg h1] at hv
      have hS : Sat ρ (t, c) ↔ ρ t.v = c := by
        unfold Sat
        simp only
        rw [if_neg h1]
        exact ⟨fun h => h.2, fun h => ⟨h0, h⟩⟩
      rw [hS]
      constructor
      · intro hρ
        refine ⟨fun v d hd => hρ v d (by rw [look_app, hd]), hρ _ _ ?_⟩
        rw [look_app, hv]
        simp
      · rintro ⟨hρ, hc⟩ v d hd
        rw [look_app] at hd
        cases hl : look env v with
        | some x =>
          rw [hl] at hd
          exact hρ v d (by rw [hl]; exact hd)
        | none =>
          rw [hl] at hd
          simp only at hd
          split at hd
          · rename_i e
            injection hd with hd
            rw [← e, ← hd]; exact hc
          · cases hd
theorem uni_none {t : Tm} {c : Cn} {env : List Bi} (h : uniF t c env = none) {ρ : ByteArray → Cn} (hρ : Ext ρ env) : ¬ Sat ρ (t, c) := by
  rintro ⟨h0, h1⟩
  simp only at h0 h1
  unfold uniF valF at h
  rw [if_neg h0] at h
  split at h1
  · rename_i he
    rw [if_pos he] at h
    simp only at h
    rw [if_pos h1] at h
    cases h
  · rename_i he
    rw [if_neg he] at h
    cases hl : look env t.v with
    | some x =>
      rw [hl] at h
      simp only at h
      rw [if_pos ((hρ _ _ hl).symm.trans h1)] at h
      cases h
    | none =>
      rw [hl] at h
      simp only at h
      rw [if_neg he] at h
      cases h
theorem unis_some {l : List (Tm × Cn)} : ∀ {env e : List Bi}, uniS l env = some e → ∀ ρ, Ext ρ e ↔ Ext ρ env ∧ Sats ρ l := by
  induction l with
  | nil =>
    intro env e h ρ
    injection h with h
    subst h
    exact ⟨fun h => ⟨h, fun p hp => by cases hp⟩, fun h => h.1⟩
  | cons p l ih =>
    intro env e h ρ
    obtain ⟨m, h1, h2⟩ := Option.bind_eq_some_iff.1 h
    rw [ih h2 ρ, uni_some h1 ρ]
    unfold Sats
    simp only [List.mem_cons, forall_eq_or_imp]
    exact ⟨fun h => ⟨h.1.1, h.1.2, h.2⟩, fun h => ⟨⟨h.1, h.2.1⟩, h.2.2⟩⟩
theorem unis_none {l : List (Tm × Cn)} : ∀ {env : List Bi}, uniS l env = none → ∀ {ρ}, Ext ρ env → ¬ Sats ρ l := by
  induction l with
  | nil => intro env h; cases h
  | cons p l ih =>
    intro env h ρ hρ hs
    have hp := hs p (List.mem_cons_self ..)
    have hl : Sats ρ l := fun q hq => hs q (List.mem_cons_of_mem _ hq)
    unfold uniS at h
    cases h1 : uniF p.1 p.2 env with
    | none => exact uni_none h1 hρ hp
    | some m =>
      rw [h1] at h
      exact ih h ((uni_some h1 ρ).2 ⟨hρ, hp⟩) hl
theorem lit_some {ho : Tm} {l : Li} {f : Fa} {env e : List Bi} (h : litF ho l f env = some e) : fits l f = true ∧ ∀ ρ, Ext ρ e ↔ Ext ρ env ∧ Sats ρ (eqs ho l f) := by
  unfold litF at h
  split at h
  · rename_i hf
    exact ⟨hf, unis_some h⟩
  · cases h
theorem lit_none {ho : Tm} {l : Li} {f : Fa} {env : List Bi} (h : litF ho l f env = none) : fits l f = true → ∀ {ρ}, Ext ρ env → ¬ Sats ρ (eqs ho l f) := by
  intro hf
  unfold litF at h
  rw [if_pos hf] at h
  exact unis_none h
/-- Bindings that say the same find the same. -/
theorem lit_eqv {ho : Tm} {l : Li} {f : Fa} {env env' : List Bi} (he : Eqv env env') : match litF ho l f env, litF ho l f env' with
    | some e, some e' => Eqv e e'
    | none, none => True
    | _, _ => False := by
  cases h1 : litF ho l f env with
  | some e =>
    obtain ⟨hf, h⟩ := lit_some h1
    cases h2 : litF ho l f env' with
    | some e' =>
      exact eqv_of fun ρ => by rw [h ρ, (lit_some h2).2 ρ, he.ext ρ]
    | none =>
      obtain ⟨ρ, hρ⟩ := ext_ex e
      obtain ⟨k1, k2⟩ := (h ρ).1 hρ
      exact lit_none h2 hf ((he.ext ρ).1 k1) k2
  | none =>
    cases h2 : litF ho l f env' with
    | none => trivial
    | some e' =>
      obtain ⟨hf, h⟩ := lit_some h2
      obtain ⟨ρ, hρ⟩ := ext_ex e'
      obtain ⟨k1, k2⟩ := (h ρ).1 hρ
      exact lit_none h1 hf ((he.ext ρ).2 k1) k2
/-- Two literals, in either order. -/
theorem lit_swap {ho : Tm} {a b : Li} {x y : Fa} {env : List Bi} : match (litF ho a x env).bind (litF ho b y), (litF ho b y env).bind (litF ho a x) with
    | some e, some e' => Eqv e e'
    | none, none => True
    | _, _ => False := by
  have key : ∀ {a b : Li} {x y : Fa} {e : List Bi}, (litF ho a x env).bind (litF ho b y) = some e → fits a x = true ∧ fits b y = true ∧ ∀ ρ, Ext ρ e ↔ Ext ρ env ∧ Sats ρ (eqs ho a x) ∧ Sats ρ (eqs ho b y) := by
    intro a b x y e h
    obtain ⟨m, h1, h2⟩ := Option.bind_eq_some_iff.1 h
    obtain ⟨f1, g1⟩ := lit_some h1
    obtain ⟨f2, g2⟩ := lit_some h2
    exact ⟨f1, f2, fun ρ => by rw [g2 ρ, g1 ρ, and_assoc]⟩
  have key2 : ∀ {a b : Li} {x y : Fa}, (litF ho a x env).bind (litF ho b y) = none → fits a x = true → fits b y = true → ∀ {ρ}, Ext ρ env → Sats ρ (eqs ho a x) → ¬ Sats ρ (eqs ho b y) := by
    intro a b x y h f1 f2 ρ hρ s1
    cases h1 : litF ho a x env with
    | none => exact absurd s1 (lit_none h1 f1 hρ)
    | some m =>
      rw [h1] at h
      exact lit_none h f2 (((lit_some h1).2 ρ).2 ⟨hρ, s1⟩)
  cases h1 : (litF ho a x env).bind (litF ho b y) with
  | some e =>
    obtain ⟨f1, f2, h⟩ := key h1
    cases h2 : (litF ho b y env).bind (litF ho a x) with
    | some e' =>
      exact eqv_of fun ρ => by rw [h ρ, (key h2).2.2 ρ, and_comm (a := Sats ρ (eqs ho a x))]
    | none =>
      obtain ⟨ρ, hρ⟩ := ext_ex e
      obtain ⟨k1, k2, k3⟩ := (h ρ).1 hρ
      exact key2 h2 f2 f1 k1 k3 k2
  | none =>
    cases h2 : (litF ho b y env).bind (litF ho a x) with
    | none => trivial
    | some e' =>
      obtain ⟨f1, f2, h⟩ := key h2
      obtain ⟨ρ, hρ⟩ := ext_ex e'
      obtain ⟨k1, k2, k3⟩ := (h ρ).1 hρ
      exact key2 h1 f2 f1 k1 k3 k2

/-! ### The choices of facts, literal by literal, in an order -/
def eachF (ho : Tm) (bo : List Li) (cand : Nat → List Fa) : List Nat → List Bi → List Fa → List (List Fa)
  | [], _, got => [got]
  | k :: o, env, got => (cand k).flatMap fun x => match litF ho (bo.getD k .zero) x env with
    | some e => eachF ho bo cand o e (got.set k x)
    | none => []
section
variable {ho : Tm} {bo : List Li} {cand : Nat → List Fa}
theorem each_eqv : ∀ (o : List Nat) {e e' : List Bi} (got : List Fa), Eqv e e' → eachF ho bo cand o e got = eachF ho bo cand o e' got
  | [], e, e', got, h => rfl
  | k :: o, e, e', got, h => by
    unfold eachF
    congr 1
    funext x
    have := lit_eqv (ho := ho) (l := bo.getD k .zero) (f := x) h
    split at this
    · rename_i h1 h2
      rw [h1, h2]
      exact each_eqv o _ this
    · rename_i h1 h2
      rw [h1, h2]
    · exact this.elim
theorem flatMap_perm {α β : Type} {f g : α → List β} (l : List α) (h : ∀ x, (f x).Perm (g x)) : (l.flatMap f).Perm (l.flatMap g) := by
  induction l with
  | nil => exact .refl _
  | cons x l ih => simp only [List.flatMap_cons]; exact (h x).append ih
theorem flatMap_add {α β : Type} (f g : α → List β) (l : List α) : (l.flatMap fun x => f x ++ g x).Perm (l.flatMap f ++ l.flatMap g) := by
  induction l with
  | nil => exact .refl _
  | cons x l ih =>
    simp only [List.flatMap_cons]
    refine ((List.Perm.refl (f x ++ g x)).append ih).trans ?_
    rw [List.append_assoc, List.append_assoc]
    refine (List.Perm.refl (f x)).append ?_
    rw [← List.append_assoc, ← List.append_assoc]
    exact List.perm_append_comm.append (.refl _)
theorem flatMap_swap {α β γ : Type} (f : α → β → List γ) (l : List α) (m : List β) : (l.flatMap fun x => m.flatMap fun y => f x y).Perm (m.flatMap fun y => l.flatMap fun x => f x y) := by
  induction l with
  | nil => simp
  | cons x l ih =>
    simp only [List.flatMap_cons]
    exact ((List.Perm.refl _).append ih).trans (flatMap_add (f x) (fun y => l.flatMap fun x => f x y) m).symm
theorem each_two {i j : Nat} {o : List Nat} {env : List Bi} {got : List Fa} : eachF ho bo cand (i :: j :: o) env got = (cand i).flatMap fun x => (cand j).flatMap fun y => match (litF ho (bo.getD i .zero) x env).bind (litF ho (bo.getD j .zero) y) with
    | some e => eachF ho bo cand o e ((got.set i x).set j y)
    | none => [] := by
  rw [eachF]
  congr 1
  funext x
  cases litF ho (bo.getD i .zero) x env with
  | none => simp
  | some e => rfl
theorem each_perm {o o' : List Nat} (h : o.Perm o') (hn : o.Nodup) : ∀ (env : List Bi) (got : List Fa), (eachF ho bo cand o env got).Perm (eachF ho bo cand o' env got) := by
  induction h with
  | nil => exact fun _ _ => .refl _
  | cons k h ih =>
    intro env got
    rw [eachF, eachF]
    refine flatMap_perm _ fun x => ?_
    cases litF ho (bo.getD k .zero) x env with
    | none => exact .refl _
    | some e => exact ih (List.nodup_cons.1 hn).2 e _
  | swap i j o =>
    intro env got
    have hij : j ≠ i := fun e => by subst e; simp at hn
    rw [each_two, each_two]
    refine (flatMap_swap _ _ _).trans (flatMap_perm _ fun x => flatMap_perm _ fun y => ?_)
    have := lit_swap (ho := ho) (a := bo.getD j .zero) (b := bo.getD i .zero) (x := y) (y := x) (env := env)
    split at this
    · rename_i h1 h2
      rw [h1, h2]
      simp only
      rw [each_eqv o _ this, List.set_comm _ _ hij]
    · rename_i h1 h2
      rw [h1, h2]
    · exact this.elim
  | trans h1 h2 ih1 ih2 => exact fun env got => (ih1 hn env got).trans (ih2 (h1.nodup_iff.1 hn) env got)
/-- Less to choose from, less that is found. -/
theorem each_sub {cand' : Nat → List Fa} (hc : ∀ k, (cand k).Sublist (cand' k)) : ∀ (o : List Nat) (env : List Bi) (got : List Fa), (eachF ho bo cand o env got).Sublist (eachF ho bo cand' o env got)
  | [], _, _ => .refl _
  | k :: o, env, got => by
    rw [eachF, eachF]
    have h1 : ∀ (f g : Fa → List (List Fa)), (∀ x, (f x).Sublist (g x)) → ∀ {l m : List Fa}, l.Sublist m → (l.flatMap f).Sublist (m.flatMap g) := by
      intro f g hfg l m hs
      induction hs with
      | slnil => exact .refl _
      | cons x h ih =>
        rw [List.flatMap_cons]
        exact ih.trans (List.sublist_append_right _ _)
      | cons_cons x h ih =>
        rw [List.flatMap_cons, List.flatMap_cons]
        exact (hfg x).append ih
    refine h1 _ _ (fun x => ?_) (hc k)
    cases litF ho (bo.getD k .zero) x env with
    | none => exact .refl _
    | some e => exact each_sub hc o e _
end
end Go.Proofs.YthdfpankebjleaaGreat

/-
  Blocks that a walk makes and forgets; arguments that are frozen at a call.
  Conditions: none.
-/
namespace Go.Proofs.YthdfpankebjleaaGreat
open Go Go.Av

/-- What was tracked is tracked yet; beside it these blocks are. -/
structure Ctx (σ0 : St) (L : List (Nat × AObj)) (σ : St) : Prop where
  sub : ∀ x o, σ0 x = some o → σ x = some o
  frs : ∀ p ∈ L, σ0 p.1 = none
  mem : ∀ p ∈ L, σ p.1 = some p.2
  nod : (L.map Prod.fst).Nodup
section
variable {σ0 σ σ' : St} {L : List (Nat × AObj)} {b b0 b1 b2 b3 b4 b5 : Nat} {o o' o0 o1 o2 o3 o4 o5 : AObj} {k : AV → St → Prop} {cs : List AV}
theorem Ctx.nil : Ctx σ [] σ := ⟨fun _ _ h => h, fun p hp => (by cases hp), fun p hp => (by cases hp), List.nodup_nil⟩
theorem Ctx.new (c : Ctx σ0 L σ) (hb : σ b = none) : Ctx σ0 ((b, o) :: L) (σ.set b o) where
  sub := fun x p hx => by
    have := c.sub x p hx
    rw [set_ne (fun e => by rw [e, hb] at this; cases this)]
    exact this
  frs p hp := by
    rcases List.mem_cons.1 hp with rfl | hp
    · exact none_of_sub c.sub hb
    · exact c.frs p hp
  mem p hp := by
    rcases List.mem_cons.1 hp with rfl | hp
    · exact set_same
    · have := c.mem p hp
      rw [set_ne (fun e => by rw [e, hb] at this; cases this)]
      exact this
  nod := by
    rw [List.map_cons, List.nodup_cons]
    refine ⟨fun h => ?_, c.nod⟩
    obtain ⟨p, hp, he⟩ := List.mem_map.1 h
    have := c.mem p hp
    rw [he, hb] at this
    cases this
theorem Ctx.upd (c : Ctx σ0 L σ) (i : Nat) (hi : (L[i]?).map Prod.fst = some b) : Ctx σ0 (L.set i (b, o')) (σ.set b o') := by
  obtain ⟨⟨b', o⟩, h1, h2⟩ := Option.map_eq_some_iff.1 hi
  simp only at h2
  subst h2
  obtain ⟨hl, h1⟩ := List.getElem?_eq_some_iff.1 h1
  have hb0 : σ0 b' = none := c.frs _ (h1 ▸ List.getElem_mem hl)
  have hm : ∀ p ∈ L.set i (b', o'), ∃ j, ∃ hj : j < L.length, p = if j = i then (b', o') else L[j] := fun p hp => by
    obtain ⟨j, hj, rfl⟩ := List.mem_iff_getElem.1 hp
    refine ⟨j, by simpa using hj, ?_⟩
    rw [List.getElem_set]
    by_cases e : i = j
    · rw [if_pos e, if_pos e.symm]
    · rw [if_neg e, if_neg (Ne.symm e)]
  have hn : ∀ j (hj : j < L.length), j ≠ i → L[j].1 ≠ b' := fun j hj hji e => by
    have hp := List.pairwise_iff_getElem.1 c.nod
    rcases Nat.lt_or_gt_of_ne hji with h | h
    · exact hp j i (by simpa using hj) (by simpa using hl) h (by simp [e, h1])
    · exact hp i j (by simpa using hl) (by simpa using hj) h (by simp [e, h1])
  refine ⟨sub_set hb0 c.sub, fun p hp => ?_, fun p hp => ?_, ?_⟩
  · obtain ⟨j, hj, rfl⟩ := hm p hp
    split
    · exact hb0
    · exact c.frs _ (List.getElem_mem hj)
  · obtain ⟨j, hj, rfl⟩ := hm p hp
    split
    · exact set_same
    · rename_i hji
      rw [set_ne (hn j hj hji)]
      exact c.mem _ (List.getElem_mem hj)
  · rw [List.map_set, show (b', o').1 = b' from rfl, show (L.map Prod.fst).set i b' = L.map Prod.fst from ?_]
    · exact c.nod
    · refine List.ext_getElem? fun j => ?_
      by_cases e : i = j
      · subst e; simp [List.getElem?_set, hl, h1]
      · rw [List.getElem?_set_ne e]
theorem Ctx.f0 (c : Ctx σ0 ((b0, o0) :: L) σ) : σ0 b0 = none := c.frs (b0, o0) (by simp)
theorem Ctx.f1 (c : Ctx σ0 ((b0, o0) :: (b1, o1) :: L) σ) : σ0 b1 = none := c.frs (b1, o1) (by simp)
theorem Ctx.g0 (c : Ctx σ0 ((b0, o0) :: L) σ) : σ b0 = some o0 := c.mem (b0, o0) (by simp)
theorem Ctx.g1 (c : Ctx σ0 ((b0, o0) :: (b1, o1) :: L) σ) : (σ b0 = some o0 ∧ σ b1 = some o1) ∧ b0 ≠ b1 ∧ b1 ≠ b0 := by
  have := c.nod
  simp only [List.map_cons, List.nodup_cons, List.mem_cons, not_or] at this
  exact ⟨⟨c.mem (b0, o0) (by simp), c.mem (b1, o1) (by simp)⟩, this.1.1, Ne.symm this.1.1⟩
theorem Ctx.g2 (c : Ctx σ0 ((b0, o0) :: (b1, o1) :: (b2, o2) :: L) σ) : (σ b0 = some o0 ∧ σ b1 = some o1 ∧ σ b2 = some o2) ∧ b0 ≠ b1 ∧ b1 ≠ b0 ∧ b0 ≠ b2 ∧ b2 ≠ b0 ∧ b1 ≠ b2 ∧ b2 ≠ b1 := by
  have := c.nod
  simp only [List.map_cons, List.nodup_cons, List.mem_cons, not_or] at this
  exact ⟨⟨c.mem (b0, o0) (by simp), c.mem (b1, o1) (by simp), c.mem (b2, o2) (by simp)⟩, this.1.1, Ne.symm this.1.1, this.1.2.1, Ne.symm this.1.2.1, this.2.1.1, Ne.symm this.2.1.1⟩
theorem Ctx.g3 (c : Ctx σ0 ((b0, o0) :: (b1, o1) :: (b2, o2) :: (b3, o3) :: L) σ) : (σ b0 = some o0 ∧ σ b1 = some o1 ∧ σ b2 = some o2 ∧ σ b3 = some o3) ∧ b0 ≠ b1 ∧ b1 ≠ b0 ∧ b0 ≠ b2 ∧ b2 ≠ b0 ∧ b1 ≠ b2 ∧ b2 ≠ b1 ∧ b0 ≠ b3 ∧ b3 ≠ b0 ∧ b1 ≠ b3 ∧ b3 ≠ b1 ∧ b2 ≠ b3 ∧ b3 ≠ b2 := by
  have := c.nod
  simp only [List.map_cons, List.nodup_cons, List.mem_cons, not_or] at this
  exact ⟨⟨c.mem (b0, o0) (by simp), c.mem (b1, o1) (by simp), c.mem (b2, o2) (by simp), c.mem (b3, o3) (by simp)⟩, this.1.1, Ne.symm this.1.1, this.1.2.1, Ne.symm this.1.2.1, this.2.1.1, Ne.symm this.2.1.1, this.1.2.2.1, Ne.symm this.1.2.2.1, this.2.1.2.1, Ne.symm this.2.1.2.1, this.2.2.1.1, Ne.symm this.2.2.1.1⟩
theorem Ctx.g4 (c : Ctx σ0 ((b0, o0) :: (b1, o1) :: (b2, o2) :: (b3, o3) :: (b4, o4) :: L) σ) : (σ b0 = some o0 ∧ σ b1 = some o1 ∧ σ b2 = some o2 ∧ σ b3 = some o3 ∧ σ b4 = some o4) ∧ (b0 ≠ b1 ∧ b1 ≠ b0 ∧ b0 ≠ b2 ∧ b2 ≠ b0 ∧ b1 ≠ b2 ∧ b2 ≠ b1 ∧ b0 ≠ b3 ∧ b3 ≠ b0 ∧ b1 ≠ b3 ∧ b3 ≠ b1 ∧ b2 ≠ b3 ∧ b3 ≠ b2) ∧ b0 ≠ b4 ∧ b4 ≠ b0 ∧ b1 ≠ b4 ∧ b4 ≠ b1 ∧ b2 ≠ b4 ∧ b4 ≠ b2 ∧ b3 ≠ b4 ∧ b4 ≠ b3 := by
  have := c.nod
  simp only [List.map_cons, List.nodup_cons, List.mem_cons, not_or] at this
  exact ⟨⟨c.mem (b0, o0) (by simp), c.mem (b1, o1) (by simp), c.mem (b2, o2) (by simp), c.mem (b3, o3) (by simp), c.mem (b4, o4) (by simp)⟩, ⟨this.1.1, Ne.symm this.1.1, this.1.2.1, Ne.symm this.1.2.1, this.2.1.1, Ne.symm this.2.1.1, this.1.2.2.1, Ne.symm this.1.2.2.1, this.2.1.2.1, Ne.symm this.2.1.2.1, this.2.2.1.1, Ne.symm this.2.2.1.1⟩, this.1.2.2.2.1, Ne.symm this.1.2.2.2.1, this.2.1.2.2.1, Ne.symm this.2.1.2.2.1, this.2.2.1.2.1, Ne.symm this.2.2.1.2.1, this.2.2.2.1.1, Ne.symm this.2.2.2.1.1⟩
theorem Ctx.tl {p : Nat × AObj} (c : Ctx σ0 (p :: L) σ) : Ctx σ0 L σ := ⟨c.sub, fun q hq => c.frs q (List.mem_cons_of_mem _ hq), fun q hq => c.mem q (List.mem_cons_of_mem _ hq), (List.nodup_cons.1 c.nod).2⟩
/-- A new block, and what is known then. -/
theorem Ctx.alloc (c : Ctx σ0 L σ) (h : ∀ b σ', Ctx σ0 ((b, o) :: L) σ' → k (ptr b) σ') : aNew σ o k := aNew_intro fun b hb hbn => h b _ (c.new hb)
theorem Ctx.view (c : Ctx σ0 L σ) (r : AV) : View σ r σ0 r := view_drop c.sub
/-- Behind a store. -/
theorem Ctx.put (c : Ctx σ0 L σ) (i : Nat) (hi : (L[i]?).map Prod.fst = some b) {G : St → Prop} (h : ∀ σ', Ctx σ0 (L.set i (b, o')) σ' → G σ') : G (σ.set b o') := h _ (c.upd i hi)
theorem Ctx.abs (c : Ctx σ0 L σ) (i : Nat) (hi : (L[i]?).map Prod.fst = some b) (o' : AObj) : ∃ s, σ.set b o' = s ∧ Ctx σ0 (L.set i (b, o')) s := ⟨_, rfl, c.upd i hi⟩
/-- A block that is in the way of nothing. -/
theorem Ctx.fresh (c : Ctx σ0 L σ) (hb : σ b = none) : σ0 b = none := none_of_sub c.sub hb
theorem Ctx.more (c : Ctx σ0 L σ) (h : ∀ x o, σ x = some o → σ' x = some o) : Ctx σ0 L σ' := ⟨fun x o hx => h x o (c.sub x o hx), c.frs, fun p hp => h _ _ (c.mem p hp), c.nod⟩
end

section
variable {σ σ1 : St} {q : Nat} {lv : AV} {es : List (List AV)} {P : Program} {f : FuncId}
theorem own_no_sl {x : Nat} : ¬ Own (.sl q es) x := fun ⟨n, c, e⟩ => by cases e
theorem own_no_fsl {x : Nat} : ¬ Own (.fsl q es) x := fun ⟨n, c, e⟩ => by cases e
theorem own_no_nil {x : Nat} : ¬ Own nilS x := fun ⟨n, c, e⟩ => by cases e
theorem own_slv {b n c x : Nat} : Own (slv b n c) x ↔ x = b := by
  constructor
  · rintro ⟨n', c', e⟩
    simp only [AV.v.injEq, Value.slice.injEq, Option.some.injEq, Addr.mk.injEq] at e
    exact e.1.1.symm
  · rintro rfl; exact ⟨_, _, rfl⟩
/-- A slice that was made, seen as its elements; nothing else is known beside what was. -/
theorem ret_vw (h : LAt q σ1 lv es) (hg : Grow σ σ1 lv) : VW σ1 σ lv (.sl q es) := h.vw_same fun x hx => hg.own hx
theorem ret_sl (h : LAt q σ1 lv es) (hg : Grow σ σ1 lv) : View σ1 lv σ (.sl q es) :=
  view_of (sv_of fun x o hx => .inl (hg.sub x o hx)) (ret_vw h hg)
theorem ret_sl2 (h : LAt q σ1 lv es) (hg : Grow σ σ1 lv) (x : AV) : View σ1 (.tup [lv, x]) σ (.tup [.sl q es, x]) :=
  view_of (sv_of fun x o hx => .inl (hg.sub x o hx)) (.tup _ _ rfl (vws_cons (ret_vw h hg) (vws_refl _)).2)
theorem ret_nil2 (h : ∀ x o, σ x = some o → σ1 x = some o) (x : AV) : View σ1 (.tup [nilS, x]) σ (.tup [.sl q [], x]) :=
  view_of (sv_of fun x o hx => .inl (h x o hx)) (.tup _ _ rfl (vws_cons (.nil q) (vws_refl _)).2)
/-- At a call what is tracked may be frozen, arguments seen as less. -/
theorem AT.pre {args args' : List AV} {Q : AV → St → Prop} (h : AT P f args' σ1 Q) (hn : isClone P f = false) (hS : SV σ σ1) (hw : VWs σ σ1 args args') : AT P f args σ Q := by
  rcases h with ⟨h1, h2⟩ | ⟨h1, h2⟩
  · refine .inl ⟨h1, fun F w vs hs hv => ?_⟩
    obtain ⟨F', k1, k2, k3⟩ := view_of hS (.tup args args' hw.1 hw.2) F w (.tuple vs.toArray) hs (.tup _ _ (by simpa using hv.1) (fun j hj => by simpa using hv.2 j hj))
    have hv' : RVs F' w args' vs := by
      cases k3 with
      | tup _ _ hl hh => exact ⟨by simpa using hl, fun j hj => by simpa using hh j hj⟩
    exact (h2 F' w vs k2 hv').mono fun e w' ⟨x, F'', σ', r, g1, g2, g3, g4, g5⟩ => ⟨x, F'', σ', r, g1, k1.trans g2, g3, g4, g5⟩
  · rw [hn] at h1; cases h1
end
end Go.Proofs.YthdfpankebjleaaGreat

/-
  A term's value, and a term made a constant, as both packages reckon them.
  Conditions: none.
-/
namespace Go.Proofs.YthdfpankebjleaaGreat
open Go Go.Av

def Cn.zero : Cn := ⟨false, 0, emp⟩
def resV (o : Option Cn) : AV := .tup [.agg (o.getD .zero).cs, boo o.isSome]
def resU (o : Option (List Bi)) : AV := .tup [.sl 4 (biC (o.getD [])), boo o.isSome]
@[go_sem] theorem Tm.val1 (t : Tm) : (t.cs.drop 1).take 3 = t.val.cs := rfl
@[go_sem] theorem Tm.len1 (t : Tm) : (t.cs.drop 1).length = 3 := rfl
@[go_sem] theorem Bi.val1 (x : Bi) : (x.cs.drop 1).take 3 = x.c.cs := rfl
@[go_sem] theorem Bi.len1 (x : Bi) : (x.cs.drop 1).length = 3 := rfl
@[go_sem] theorem Tm.app (a b : Tm) : a.cs ++ b.cs.drop 4 = a.cs := rfl
@[go_sem] theorem Cn.app (a b : Cn) : a.cs ++ b.cs.drop 3 = a.cs := rfl
@[go_sem] theorem Fa.app (a b : Fa) : a.cs ++ b.cs.drop 4 = a.cs := rfl
section
variable {K : AV → Prop} {σ : St}
theorem tm_eq {t : Tm} (h : K (boo (decide (t = .zero)))) : aAgg Tryz.prog false 40 (.agg t.cs) (.agg Tm.zero.cs) K := by
  refine agg_by (ls := [.s, .b, .i .i64, .s]) (vs := [.string t.v, .bool t.b, .int .i64 t.n, .string t.s]) (ws := [.string emp, .bool false, .int .i64 0, .string emp]) (by kernel_rfl) (by kernel_rfl) (by kernel_rfl) rfl rfl rfl rfl (by simp [Fit, Leaf.ok]) (by simp [Fit, Leaf.ok]) ?_
  rcases t with ⟨v, b, n, s⟩
  simpa [eqL, eqLeaf, Tm.zero] using h
theorem cn_eq {a b : Cn} (h : K (boo (decide (a = b)))) : aAgg Tryz.prog false 38 (.agg a.cs) (.agg b.cs) K := by
  refine agg_by (ls := [.b, .i .i64, .s]) (vs := [.bool a.b, .int .i64 a.n, .string a.s]) (ws := [.bool b.b, .int .i64 b.n, .string b.s]) (by kernel_rfl) (by kernel_rfl) (by kernel_rfl) rfl rfl rfl rfl (by simp [Fit, Leaf.ok]) (by simp [Fit, Leaf.ok]) ?_
  rcases a with ⟨x, n, s⟩
  rcases b with ⟨y, m, t⟩
  cases x <;> cases y <;> simpa [eqL, eqLeaf] using h
theorem cn_ne {a b : Cn} (h : K (boo (!decide (a = b)))) : aAgg Tryz.prog true 38 (.agg a.cs) (.agg b.cs) K := by
  refine agg_by (ls := [.b, .i .i64, .s]) (vs := [.bool a.b, .int .i64 a.n, .string a.s]) (ws := [.bool b.b, .int .i64 b.n, .string b.s]) (by kernel_rfl) (by kernel_rfl) (by kernel_rfl) rfl rfl rfl rfl (by simp [Fit, Leaf.ok]) (by simp [Fit, Leaf.ok]) ?_
  rcases a with ⟨x, n, s⟩
  rcases b with ⟨y, m, t⟩
  cases x <;> cases y <;> simpa [eqL, eqLeaf] using h
/-- The end of a function of two results, the first one in a block of its own. -/
theorem aRet_ct {P : Program} {Q : AV → St → Prop} {fr : Fr} {t tt u b : Nat} {i : TK} {cs : List AV} (σ' : St) (r' : AV) (hfr : fr t = .v (.pointer (some ⟨b, 0, none⟩))) (hb : σ b = some (.cells cs)) (hi : tk P tt = some i) (hag : i.ag = true) (hsz : i.sz = cs.length)
    (hv : View σ (.tup [.agg cs, fr u]) σ' r') (hq : Q r' σ') : aRet P Q [.cell t tt, .tmp u] fr σ :=
  ⟨.tup [.agg cs, fr u], by simp [aResult, aResL, aRes1, aResC, hfr, hi, hag, hb, hsz, oneR], r', σ', hv, hq⟩

theorem name_at (s : ByteArray) : AT Tryz.prog 45 [str s] σ fun r σ' => r = .agg (nmC s).cs ∧ σ' = σ := by
  refine AT.of_body Tryz.func45 rfl (by decide) (by kernel_rfl) (by kernel_rfl) (Nat.le_of_ble_eq_true rfl) ?_
  simp only [go_sem]
  refine Ctx.nil.alloc fun p σ1 c1 => ?_
  simp only [go_sem, c1.g0]
  exact aRet_cell σ (.agg (nmC s).cs) rfl set_same tk38 rfl rfl ((c1.upd 0 rfl).view _) ⟨rfl, rfl⟩
theorem text_at (s : ByteArray) : AT Tryz.prog 61 [str s] σ fun r σ' => r = .agg (nmC s).cs ∧ σ' = σ := by
  refine AT.of_body Tryz.func61 rfl (by decide) (by kernel_rfl) (by kernel_rfl) (Nat.le_of_ble_eq_true rfl) ?_
  simp only [go_sem]
  refine Ctx.nil.alloc fun p σ1 c1 => ?_
  simp only [go_sem, c1.g0]
  exact aRet_cell σ (.agg (nmC s).cs) rfl set_same tk38 rfl rfl ((c1.upd 0 rfl).view _) ⟨rfl, rfl⟩
theorem none_at (t : Tm) : AT Tryz.prog 85 [.agg t.cs] σ fun r σ' => r = boo (decide (t = .zero)) ∧ σ' = σ := by
  refine AT.of_body Tryz.func85 rfl (by decide) (by kernel_rfl) (by kernel_rfl) (Nat.le_of_ble_eq_true rfl) ?_
  simp only [go_sem]
  refine Ctx.nil.alloc fun p σ1 c1 => ?_
  simp only [go_sem, c1.g0]
  refine tm_eq ?_
  simp only [go_sem]
  exact aRet_view (r := boo _) rfl _ σ (c1.view _) ⟨rfl, rfl⟩
theorem or_at' (a b : Tm) : AT Tryz.prog 60 [.agg a.cs, .agg b.cs] σ fun r σ' => r = .agg (orT a b).cs ∧ σ' = σ := by
  refine AT.of_body Tryz.func60 rfl (by decide) (by kernel_rfl) (by kernel_rfl) (Nat.le_of_ble_eq_true rfl) ?_
  simp only [go_sem]
  refine Ctx.nil.alloc fun p σ1 c1 => ?_
  simp only [go_sem]
  refine c1.alloc fun q σ2 c2 => ?_
  simp only [go_sem]
  refine c2.alloc fun r σ3 c3 => ?_
  simp only [go_sem, c3.g2]
  refine tm_eq ?_
  simp only [go_sem]
  refine aIf_by (fun h => ?_) (fun h => ?_)
  · simp only [go_sem, c3.g2]
    exact aRet_cell σ (.agg (orT a b).cs) rfl set_same tk40 rfl rfl (by unfold orT; rw [if_pos h]; exact (c3.upd 0 rfl).view _) ⟨rfl, rfl⟩
  · simp only [go_sem, c3.g2]
    exact aRet_cell σ (.agg (orT a b).cs) rfl set_same tk40 rfl rfl (by unfold orT; rw [if_neg h]; exact (c3.upd 0 rfl).view _) ⟨rfl, rfl⟩
theorem valc_at {t : Tm} {b : Bi} {q : Nat} (hq : σ q = some (.cells t.cs)) : AT Tryz.prog 109 [.agg b.cs, ptr q] σ fun r σ' => r = boo (decide (b.v = t.v)) ∧ σ' = σ := by
  refine AT.of_body Tryz.func109 rfl (by decide) (by kernel_rfl) (by kernel_rfl) (Nat.le_of_ble_eq_true rfl) ?_
  simp only [go_sem]
  refine Ctx.nil.alloc fun p σ1 c1 => ?_
  simp only [go_sem, c1.g0, c1.sub _ _ hq]
  exact aRet_view (r := boo _) rfl _ σ (c1.view _) ⟨rfl, rfl⟩
theorem ixf_at {t : Tm} {q : Nat} (env : List Bi) (hl : env.length ≤ 1000000000) (hq : σ q = some (.cells t.cs)) : AT Tryz.prog 108 [.sl 4 (biC env), .v (.func (.func 109) #[] #[.pointer (some ⟨q, 0, none⟩)])] σ fun r σ' => σ' = σ ∧ ((∃ i, ∃ h : i < env.length, r = int i ∧ look env t.v = some env[i].c) ∨ (r = int (-1) ∧ look env t.v = none)) := by
  refine AT.of_body Tryz.func108 rfl (by decide) (by kernel_rfl) (by kernel_rfl) (Nat.le_of_ble_eq_true rfl) ?_
  simp only [go_sem, r_block]
  refine ⟨fun m fr σ' => ∃ i : Nat, m = env.length - i ∧ i ≤ env.length ∧ σ' = σ ∧ look (env.drop i) t.v = look env t.v ∧ fr 0 = .sl 4 (biC env) ∧ fr 1 = .v (.func (.func 109) #[] #[.pointer (some ⟨q, 0, none⟩)]) ∧ fr 7 = int env.length ∧ fr 8 = int i, ⟨_, 0, rfl, by omega, rfl, rfl, rfl, rfl, rfl, rfl⟩, ?_⟩
  rintro m fr σ' ⟨i, rfl, hi, rfl, hI, f0, f1, f7, f8⟩
  simp only [go_sem, f7, f8]
  refine aIf_by (fun hlt => ?_) (fun hlt => ?_)
  · have hil : i < env.length := by omega
    rw [List.drop_eq_getElem_cons hil] at hI
    have e2 : look (env[i] :: env.drop (i + 1)) t.v = if env[i].v = t.v then some env[i].c else look (env.drop (i + 1)) t.v := rfl
    rw [e2] at hI
    simp only [go_sem, r_block, f0, f1, f8, biC_get hil]
    refine ⟨by omega, ?_⟩
    refine (valc_at hq).mono ?_
    rintro _ _ ⟨rfl, rfl⟩
    simp only [go_sem]
    refine aIf_by (fun h0 => ?_) (fun h0 => ?_)
    · simp only [go_sem, f8]
      rw [if_pos h0] at hI
      exact aRet_as (r := int i) rfl ⟨rfl, .inl ⟨i, hil, rfl, hI.symm⟩⟩
    · simp only [go_sem, f0, f1, f7, f8, next64 (show i < 9223372036854775807 by omega)]
      rw [if_neg h0] at hI
      exact ⟨env.length - (i + 1), by omega, i + 1, rfl, by omega, hI, rfl⟩
  · simp only [go_sem]
    rw [List.drop_of_length_le (by omega)] at hI
    exact aRet_as (r := int (-1)) rfl ⟨rfl, .inr ⟨rfl, hI.symm⟩⟩
end
end Go.Proofs.YthdfpankebjleaaGreat

/-
  Facts and lists of facts held against each other, as the document reckons it.
  Conditions: none.
-/
namespace Go.Proofs.YthdfpankebjleaaGreat
open Go Go.Av

theorem rd_one {q : Nat} {σ : St} {v : AV} {es : List (List AV)} (h : Rd q σ v es) : v.one = true := by
  rcases h with rfl | h
  · rfl
  · exact h.one
/-- A fact whose arguments are this slice. -/
def faX (f : Fa) (v : AV) : List AV := [str f.at', str f.by', str f.pr, v]
@[go_sem] theorem faX_len (f : Fa) (v : AV) : (faX f v).length = 4 := rfl
@[go_sem] theorem faX_take (f : Fa) (v : AV) : (faX f v).take 4 = faX f v := rfl
@[go_sem] theorem faX_0 (f : Fa) (v : AV) : (faX f v).getD 0 (.v undef) = str f.at' := rfl
@[go_sem] theorem faX_1 (f : Fa) (v : AV) : (faX f v).getD 1 (.v undef) = str f.by' := rfl
@[go_sem] theorem faX_2 (f : Fa) (v : AV) : (faX f v).getD 2 (.v undef) = str f.pr := rfl
@[go_sem] theorem faX_3 (f : Fa) (v : AV) : (faX f v).getD 3 (.v undef) = v := rfl
theorem faX_one (f : Fa) {v : AV} (h : v.one = true) : (faX f v).all AV.one = true := by unfold faX; simp only [List.all_cons, List.all_nil, h, Bool.and_true]; rfl
@[go_sem] theorem Fa.d1 (f : Fa) : (f.cs.drop 1).getD 0 (.v undef) = str f.by' := rfl
@[go_sem] theorem Fa.d2 (f : Fa) : (f.cs.drop 2).getD 0 (.v undef) = str f.pr := rfl
@[go_sem] theorem Fa.d3 (f : Fa) : (f.cs.drop 3).getD 0 (.v undef) = .sl 3 (cnC f.ar) := rfl
@[go_sem] theorem Cn.d1 (c : Cn) : (c.cs.drop 1).getD 0 (.v undef) = int c.n := rfl
@[go_sem] theorem Cn.d2 (c : Cn) : (c.cs.drop 2).getD 0 (.v undef) = str c.s := rfl
def faC (l : List Fa) : List (List AV) := l.map Fa.cs
@[go_sem] theorem faC_len (l : List Fa) : (faC l).length = l.length := by simp [faC]
theorem faC_get {l : List Fa} {i : Nat} (h : i < l.length) : (faC l).getD i [] = l[i].cs := by simp [faC, List.getD_eq_getElem?_getD, h]
def boC (l : List (List Fa)) : List (List AV) := l.map fun b => [.sl 4 (faC b)]
@[go_sem] theorem boC_len (l : List (List Fa)) : (boC l).length = l.length := by simp [boC]
theorem boC_get {l : List (List Fa)} {i : Nat} (h : i < l.length) : (boC l).getD i [] = [.sl 4 (faC l[i])] := by simp [boC, List.getD_eq_getElem?_getD, h]
/-- A fact whose arguments can be read. -/
def FX (σ : St) (f : Fa) (e : List AV) : Prop := ∃ v, e = faX f v ∧ Rd 3 σ v (cnC f.ar)
/-- A list of such facts that can be read. -/
def BX (σ : St) (b : List Fa) (lv : AV) : Prop := ∃ es, Rd 4 σ lv es ∧ es.length = b.length ∧ ∀ i (h : i < b.length), FX σ b[i] (es.getD i [])
theorem FX.cs {σ : St} {f : Fa} : FX σ f f.cs := ⟨_, rfl, .sl⟩
theorem BX.sl {σ : St} {b : List Fa} : BX σ b (.sl 4 (faC b)) := ⟨_, .sl, by simp [faC], fun i h => by rw [faC_get h]; exact .cs⟩
theorem FX.keep {σ σ' : St} {f : Fa} {e : List AV} (h : FX σ f e) (hs : ∀ x o, σ x = some o → σ' x = some o) : FX σ' f e := by
  obtain ⟨v, h1, h2⟩ := h
  exact ⟨v, h1, h2.keep hs⟩
theorem BX.keep {σ σ' : St} {b : List Fa} {lv : AV} (h : BX σ b lv) (hs : ∀ x o, σ x = some o → σ' x = some o) : BX σ' b lv := by
  obtain ⟨es, h1, h2, h3⟩ := h
  exact ⟨es, h1.keep hs, h2, fun i hi => (h3 i hi).keep hs⟩
/-- Small enough to be gone through. -/
def Fa.Sm (f : Fa) : Prop := f.ar.length ≤ 1000000000
section
variable {σ : St}
theorem texts_at (x y : ByteArray) : AT Tryz.prog 77 [str x, str y] σ fun r σ' => r = int (cmpS x y) ∧ σ' = σ := by
  refine AT.of_body Tryz.func77 rfl (by decide) (by kernel_rfl) (by kernel_rfl) (Nat.le_of_ble_eq_true rfl) ?_
  simp only [go_sem]
  refine aIf_bool (fun h1 => ?_) (fun h1 => ?_)
  · simp only [go_sem]
    exact aRet_as (r := int (-1)) rfl ⟨by unfold cmpS; rw [if_pos h1], rfl⟩
  · by_cases h2 : x = y
    · have e : (Op.bytesLess x.toList y.toList || decide (x = y)) = true := by rw [decide_eq_true h2]; simp
      simp only [go_sem, e, Bool.not_true]
      exact aRet_as (r := int 0) rfl ⟨by unfold cmpS; rw [if_neg (by rw [h1]; decide), if_pos h2], rfl⟩
    · have e : (Op.bytesLess x.toList y.toList || decide (x = y)) = false := by rw [decide_eq_false h2, h1]; rfl
      simp only [go_sem, e, Bool.not_false]
      exact aRet_as (r := int 1) rfl ⟨by unfold cmpS; rw [if_neg (by rw [h1]; decide), if_neg h2], rfl⟩
theorem rcmpC_at (x y : Cn) : AT Tryz.prog 78 [.agg x.cs, .agg y.cs] σ fun r σ' => r = int (cmpC x y) ∧ σ' = σ := by
  refine AT.of_body Tryz.func78 rfl (by decide) (by kernel_rfl) (by kernel_rfl) (Nat.le_of_ble_eq_true rfl) ?_
  simp only [go_sem]
  refine Ctx.nil.alloc fun p σ1 c1 => ?_
  simp only [go_sem]
  refine c1.alloc fun q σ2 c2 => ?_
  have e : cmpC x y = if x.b = y.b then orI [cmpI x.n y.n, cmpS x.s y.s] else if x.b = true then -1 else 1 := rfl
  cases hx : x.b with
  | true =>
    cases hy : y.b with
    | false =>
      simp only [go_sem, c2.g1, hx, hy]
      exact aRet_view (r := int (-1)) rfl _ σ (c2.view _) ⟨by rw [e, hx, hy]; rfl, rfl⟩
    | true =>
      rw [hx, hy, if_pos rfl] at e
      simp only [go_sem, c2.g1, hx, hy]
      refine aIf_by (fun h1 => ?_) (fun h1 => ?_)
      · simp only [go_sem]
        exact aRet_view (r := int (-1)) rfl _ σ (c2.view _) ⟨by rw [e]; unfold cmpI; rw [if_pos h1]; rfl, rfl⟩
      · simp only [go_sem, c2.g1]
        refine aIf_by (fun h2 => ?_) (fun h2 => ?_)
        · simp only [go_sem]
          exact aRet_view (r := int 1) rfl _ σ (c2.view _) ⟨by rw [e]; unfold cmpI; rw [if_neg h1, if_neg (by omega)]; rfl, rfl⟩
        · simp only [go_sem, c2.g1]
          refine (texts_at x.s y.s).mono ?_
          rintro _ σ2 ⟨rfl, rfl⟩
          simp only [go_sem]
          exact aRet_view (r := int _) rfl _ σ (c2.view _) ⟨by rw [e, orI2, (cmpI_ord.zero _ _).2 (show x.n = y.n by omega), if_pos rfl], rfl⟩
  | false =>
    cases hy : y.b with
    | true =>
      simp only [go_sem, c2.g1, hx, hy]
      exact aRet_view (r := int 1) rfl _ σ (c2.view _) ⟨by rw [e, hx, hy]; rfl, rfl⟩
    | false =>
      rw [hx, hy, if_pos rfl] at e
      simp only [go_sem, c2.g1, hx, hy]
      refine aIf_by (fun h1 => ?_) (fun h1 => ?_)
      · simp only [go_sem]
        exact aRet_view (r := int (-1)) rfl _ σ (c2.view _) ⟨by rw [e]; unfold cmpI; rw [if_pos h1]; rfl, rfl⟩
      · simp only [go_sem, c2.g1]
        refine aIf_by (fun h2 => ?_) (fun h2 => ?_)
        · simp only [go_sem]
          exact aRet_view (r := int 1) rfl _ σ (c2.view _) ⟨by rw [e]; unfold cmpI; rw [if_neg h1, if_neg (by omega)]; rfl, rfl⟩
        · simp only [go_sem, c2.g1]
          refine (texts_at x.s y.s).mono ?_
          rintro _ σ2 ⟨rfl, rfl⟩
          simp only [go_sem]
          exact aRet_view (r := int _) rfl _ σ (c2.view _) ⟨by rw [e, orI2, (cmpI_ord.zero _ _).2 (show x.n = y.n by omega), if_pos rfl], rfl⟩
theorem cmpL_step {α : Type} {c : α → α → Int} {l k : List α} {i : Nat} (h1 : i < l.length) (h2 : i < k.length) : cmpL c (l.drop i) (k.drop i) = if c l[i] k[i] = 0 then cmpL c (l.drop (i + 1)) (k.drop (i + 1)) else c l[i] k[i] := by
  rw [List.drop_eq_getElem_cons h1, List.drop_eq_getElem_cons h2]; rfl
theorem cmpL_end {α : Type} {c : α → α → Int} {l k : List α} {i : Nat} (h1 : i ≤ l.length) (h2 : i ≤ k.length) (h : ¬ (i < l.length ∧ i < k.length)) : cmpL c (l.drop i) (k.drop i) = if l.length < k.length then -1 else if k.length < l.length then 1 else 0 := by
  by_cases h3 : i < l.length
  · have h4 : k.drop i = [] := List.drop_of_length_le (by omega)
    rw [h4, List.drop_eq_getElem_cons h3, if_neg (by omega), if_pos (by omega)]; rfl
  · have h4 : l.drop i = [] := List.drop_of_length_le (by omega)
    rw [h4]
    by_cases h5 : i < k.length
    · rw [List.drop_eq_getElem_cons h5, if_pos (by omega)]; rfl
    · rw [List.drop_of_length_le (by omega), if_neg (by omega), if_neg (by omega)]; rfl
theorem rord_at {x y : Fa} {e1 e2 : List AV} (hx : FX σ x e1) (hy : FX σ y e2) (sx : x.Sm) (sy : y.Sm) : AT Tryz.prog 38 [.agg e1, .agg e2] σ fun r σ' => r = int (cmpF x y) ∧ σ' = σ := by
  obtain ⟨v, rfl, hv⟩ := hx
  obtain ⟨w, rfl, hw⟩ := hy
  unfold Fa.Sm at sx sy
  refine AT.of_body Tryz.func38 rfl (by decide) (by kernel_rfl) (by kernel_rfl) (Nat.le_of_ble_eq_true rfl) ?_
  simp only [go_sem, faX_one x (rd_one hv), faX_one y (rd_one hw)]
  refine Ctx.nil.alloc fun p σ1 c1 => ?_
  simp only [go_sem, faX_one x (rd_one hv), faX_one y (rd_one hw)]
  refine c1.alloc fun q σ2 c2 => ?_
  have e : cmpF x y = orI [cmpS x.at' y.at', cmpS x.by' y.by', cmpS x.pr y.pr, cmpL cmpC x.ar y.ar] := rfl
  have hv := hv.keep c2.sub
  have hw := hw.keep c2.sub
  by_cases h1 : x.at' = y.at'
  · simp only [go_sem, c2.g1, h1]
    by_cases h2 : x.by' = y.by'
    · simp only [go_sem, c2.g1, h2]
      by_cases h3 : x.pr = y.pr
      · have e : cmpF x y = cmpL cmpC x.ar y.ar := by
          rw [e, h1, h2, h3]
          simp only [orI, cmpS_zero.2 rfl, if_true]
          split
          · rename_i h; exact h.symm
          · rfl
        simp only [go_sem, r_block, c2.g1, h3]
        refine ⟨fun m fr σ' => ∃ i : Nat, m = x.ar.length - i ∧ i ≤ x.ar.length ∧ i ≤ y.ar.length ∧ σ' = σ2 ∧ cmpL cmpC (x.ar.drop i) (y.ar.drop i) = cmpL cmpC x.ar y.ar ∧ fr 2 = ptr p ∧ fr 3 = ptr q ∧ fr 5 = int i, ⟨_, 0, rfl, by omega, by omega, rfl, rfl, rfl, rfl, rfl⟩, ?_⟩
        rintro m fr σ3 ⟨i, rfl, hi1, hi2, rfl, hI, f2, f3, f5⟩
        by_cases g : i < x.ar.length ∧ i < y.ar.length
        · obtain ⟨g1, g2⟩ := g
          rw [cmpL_step g1 g2] at hI
          have d1 := decide_eq_true (show (i : Int) < x.ar.length by omega)
          have d2 := decide_eq_true (show (i : Int) < y.ar.length by omega)
          simp only [go_sem, r_block, f2, f3, f5, c2.g1, hv.len, hw.len, d1, d2]
          refine aDraw_plan [.rd 0 false, .rd 1 true, .rd 2 false, .rd 3 false, .rd 4 true, .rd 5 false, .rd 6 true, .rd 7 false, .rd 8 false, .rd 9 true, .ef 10 [], .rd 11 false] (by kernel_rfl) (by kernel_rfl) (by kernel_rfl) ?_
          simp only [go_sem, r_block, f2, f3, f5, c2.g1]
          refine hv.elem (by omega) (by rw [cnC_len]; omega) fun a ha => ?_
          simp only [go_sem, r_block]
          refine ha.load (by decide) (by rw [Int.toNat_natCast, cnC_get g1]; exact Nat.le_refl 3) ?_
          simp only [go_sem, r_block, f2, f3, f5, c2.g1, cnC_get g1]
          refine hw.elem (by omega) (by rw [cnC_len]; omega) fun b hb => ?_
          simp only [go_sem, r_block]
          refine hb.load (by decide) (by rw [Int.toNat_natCast, cnC_get g2]; exact Nat.le_refl 3) ?_
          simp only [go_sem, r_block, f2, f3, f5, c2.g1, cnC_get g2]
          refine (rcmpC_at x.ar[i] y.ar[i]).mono ?_
          rintro _ σ2 ⟨rfl, rfl⟩
          simp only [go_sem, r_block]
          refine aIf_by (fun h0 => ?_) (fun h0 => ?_)
          · rw [if_pos h0] at hI
            simp only [go_sem, r_block, f2, f3, f5, next64 (show i < 9223372036854775807 by omega)]
            refine ⟨x.ar.length - (i + 1), by omega, i + 1, ?_⟩
            (and_intros <;> first | assumption | rfl | omega)
          · rw [if_neg h0] at hI
            simp only [go_sem, r_block]
            exact aRet_view (r := int _) rfl _ σ (c2.view _) ⟨by rw [e, ← hI], rfl⟩
        · have fin : cmpF x y = if x.ar.length < y.ar.length then -1 else if y.ar.length < x.ar.length then 1 else 0 := by rw [e, ← hI, cmpL_end hi1 hi2 g]
          by_cases g1 : i < x.ar.length
          · have d1 := decide_eq_true (show (i : Int) < x.ar.length by omega)
            have d2 := decide_eq_false (show ¬ (i : Int) < y.ar.length by omega)
            have d3 := decide_eq_false (show ¬ (x.ar.length : Int) < y.ar.length by omega)
            have d4 := decide_eq_true (show (y.ar.length : Int) < x.ar.length by omega)
            rw [if_neg (by omega), if_pos (by omega)] at fin
            simp only [go_sem, r_block, f2, f3, f5, c2.g1, hv.len, hw.len, d1, d2, d3, d4]
            exact aRet_view (r := int 1) rfl _ σ (c2.view _) ⟨by rw [fin], rfl⟩
          · have d1 := decide_eq_false (show ¬ (i : Int) < x.ar.length by omega)
            simp only [go_sem, r_block, f2, f3, f5, c2.g1, hv.len, hw.len, d1]
            refine aIf_by (fun h0 => ?_) (fun h0 => ?_)
            · rw [if_pos (by omega)] at fin
              simp only [go_sem, r_block]
              exact aRet_view (r := int (-1)) rfl _ σ (c2.view _) ⟨by rw [fin], rfl⟩
            · rw [if_neg (by omega), if_neg (by omega)] at fin
              have d4 := decide_eq_false (show ¬ (y.ar.length : Int) < x.ar.length by omega)
              simp only [go_sem, r_block, f2, f3, c2.g1, hv.len, hw.len, d4]
              exact aRet_view (r := int 0) rfl _ σ (c2.view _) ⟨by rw [fin], rfl⟩
      · simp only [go_sem, c2.g1, h3]
        refine (texts_at x.pr y.pr).mono ?_
        rintro _ σ2 ⟨rfl, rfl⟩
        simp only [go_sem]
        exact aRet_view (r := int _) rfl _ σ (c2.view _) ⟨by rw [e, h1, h2]; simp only [orI, cmpS_zero.2 rfl, if_true]; rw [if_neg (fun h => h3 (cmpS_zero.1 h))], rfl⟩
    · simp only [go_sem, c2.g1, h2]
      refine (texts_at x.by' y.by').mono ?_
      rintro _ σ2 ⟨rfl, rfl⟩
      simp only [go_sem]
      exact aRet_view (r := int _) rfl _ σ (c2.view _) ⟨by rw [e, h1]; simp only [orI, cmpS_zero.2 rfl, if_true]; rw [if_neg (fun h => h2 (cmpS_zero.1 h))], rfl⟩
  · simp only [go_sem, c2.g1, h1]
    refine (texts_at x.at' y.at').mono ?_
    rintro _ σ2 ⟨rfl, rfl⟩
    simp only [go_sem]
    exact aRet_view (r := int _) rfl _ σ (c2.view _) ⟨by rw [e]; simp only [orI]; rw [if_neg (fun h => h1 (cmpS_zero.1 h))], rfl⟩
end
end Go.Proofs.YthdfpankebjleaaGreat

/-
  In which order literals are looked for (package plan, and the document's): the small functions.
  Conditions: none.
-/
namespace Go.Proofs.YthdfpankebjleaaGreat
open Go Go.Av

instance memDec (s : ByteArray) (l : List ByteArray) : Decidable (s ∈ l) := @List.instDecidableMemOfLawfulBEq ByteArray instBEqOfDecidableEq inferInstance s l
/-- Is a term known by some variables? -/
def kn (t : Tm) (vs : List ByteArray) : Nat := if t ≠ .zero ∧ (t.v = emp ∨ t.v ∈ vs) then 1 else 0
def knS (l : List Tm) (vs : List ByteArray) : Nat := (l.map (kn · vs)).sum
def knL (l : Li) (vs : List ByteArray) : Nat := knS (l.by' :: l.ar) vs
/-- The variables, and a literal's. -/
def ofLi (l : Li) (vs : List ByteArray) : List ByteArray := vs ++ l.by'.v :: l.at'.v :: l.ar.map Tm.v
theorem kn_le (t : Tm) (vs : List ByteArray) : kn t vs ≤ 1 := by unfold kn; split <;> omega
theorem knS_le (vs : List ByteArray) : ∀ l : List Tm, knS l vs ≤ l.length
  | [] => by simp [knS]
  | t :: l => by
    have := knS_le vs l
    have := kn_le t vs
    simp only [knS, List.map_cons, List.sum_cons, List.length_cons] at *
    omega
theorem knS_take (vs : List ByteArray) {l : List Tm} {i : Nat} (h : i < l.length) : knS (l.take (i + 1)) vs = knS (l.take i) vs + kn l[i] vs := by
  unfold knS
  rw [List.take_add_one, List.getElem?_eq_getElem h]
  simp only [List.map_append, List.sum_append, Option.toList, List.map_cons, List.map_nil, List.sum_cons, List.sum_nil, Nat.add_zero]

section
variable {σ : St} {lv : AV}
/-- The same numbers. -/
theorem ints_at (l : List Int) (hl : l.length ≤ 1000000000) : AT Tryz.prog 50 [.sl 1 (inC l), .sl 1 (inC l)] σ fun r σ' => r = boo true ∧ σ' = σ := by
  refine AT.of_body Tryz.func50 rfl (by decide) (by kernel_rfl) (by kernel_rfl) (Nat.le_of_ble_eq_true rfl) ?_
  simp only [go_sem, r_block]
  refine ⟨fun m fr σ' => ∃ i : Nat, m = l.length - i ∧ i ≤ l.length ∧ σ' = σ ∧ fr 0 = .sl 1 (inC l) ∧ fr 1 = .sl 1 (inC l) ∧ fr 5 = int i, ⟨_, 0, rfl, by omega, rfl, rfl, rfl, rfl⟩, ?_⟩
  rintro m fr σ ⟨i, rfl, h1, rfl, f0, f1, f5⟩
  simp only [go_sem, f0, f1, f5]
  refine aIf_by (fun hlt => ?_) (fun hlt => ?_)
  · simp only [go_sem, r_block, f0, f1, f5]
    refine aDraw_plan [.rd 0 false, .rd 1 false, .rd 2 false, .rd 3 true, .rd 4 false, .rd 5 false, .rd 6 false, .rd 7 true, .rd 8 false] (by kernel_rfl) (by kernel_rfl) (by kernel_rfl) ?_
    have hi : i < l.length := by omega
    simp only [go_sem, r_block, f0, f1, f5, inC_get hi, next64 (show i < 9223372036854775807 by omega)]
    exact ⟨by omega, by omega, l.length - (i + 1), by omega, i + 1, rfl, by omega, rfl⟩
  · simp only [go_sem, r_block, f0, f1, f5]
    exact aRet_as (r := boo true) rfl ⟨rfl, rfl⟩
/-- Where a text lies first. -/
theorem index_at {l : List ByteArray} {s : ByteArray} (hl : l.length ≤ 1000000000) (h : Rd 1 σ lv (stC l)) : AT Tryz.prog 91 [lv, str s] σ fun r σ' => σ' = σ ∧ ((s ∈ l ∧ ∃ i : Nat, r = int i) ∨ (s ∉ l ∧ r = int (-1))) := by
  refine AT.of_body Tryz.func91 rfl (by decide) (by kernel_rfl) (by kernel_rfl) (Nat.le_of_ble_eq_true rfl) ?_
  simp only [go_sem, r_block, h.len]
  refine ⟨fun m fr σ' => ∃ i : Nat, m = l.length - i ∧ i ≤ l.length ∧ σ' = σ ∧ fr 0 = lv ∧ fr 1 = str s ∧ fr 8 = int i ∧ fr 7 = int l.length ∧ s ∉ l.take i, ⟨_, 0, rfl, by omega, rfl, rfl, rfl, rfl, rfl, by simp⟩, ?_⟩
  rintro m fr σ ⟨i, rfl, h1, rfl, f0, f1, f8, f7, g⟩
  simp only [go_sem, f0, f1, f8, f7]
  refine aIf_by (fun hlt => ?_) (fun hlt => ?_)
  · have hi : i < l.length := by omega
    simp only [go_sem, r_block, f0, f1, f8]
    refine h.elem (by omega) (by rw [stC_len]; omega) fun p hp => ?_
    simp only [go_sem, r_block]
    refine hp.load1 (by omega) (by rw [Int.toNat_natCast, stC_get hi]; simp) ?_
    simp only [go_sem, r_block, f0, f1, f8, f7, stC_get hi]
    refine aIf_by (fun he => ?_) (fun he => ?_)
    · simp only [go_sem, r_block]
      exact aRet_as (r := int i) rfl ⟨rfl, .inl ⟨he ▸ List.getElem_mem hi, i, rfl⟩⟩
    · simp only [go_sem, r_block, f0, f1, f8, f7, next64 (show i < 9223372036854775807 by omega)]
      refine ⟨l.length - (i + 1), by omega, i + 1, rfl, by omega, rfl, ?_⟩
      rw [List.take_add_one, List.getElem?_eq_getElem hi]
      simp only [Option.toList, List.mem_append, List.mem_singleton, not_or]
      exact ⟨g, fun e => he e⟩
  · simp only [go_sem, r_block, f0, f1, f8]
    rw [List.take_of_length_le (by omega)] at g
    exact aRet_as (r := int (-1)) rfl ⟨rfl, .inr ⟨g, rfl⟩⟩
theorem has_at {l : List ByteArray} {s : ByteArray} (hl : l.length ≤ 1000000000) (h : Rd 1 σ lv (stC l)) : AT Tryz.prog 48 [lv, str s] σ fun r σ' => r = boo (decide (s ∈ l)) ∧ σ' = σ := by
  refine AT.of_body Tryz.func48 rfl (by decide) (by kernel_rfl) (by kernel_rfl) (Nat.le_of_ble_eq_true rfl) ?_
  simp only [go_sem, r_block]
  refine (index_at hl h).mono ?_
  rintro _ σ ⟨rfl, hs⟩
  rcases hs with ⟨hs, i, rfl⟩ | ⟨hs, rfl⟩
  · simp only [go_sem, r_block]
    exact aRet_as (r := boo (decide ((0 : Int) ≤ i))) rfl ⟨by rw [decide_eq_true hs, decide_eq_true (by omega)], rfl⟩
  · simp only [go_sem, r_block]
    exact aRet_as (r := boo (decide ((0 : Int) ≤ -1))) rfl ⟨by rw [decide_eq_false hs]; rfl, rfl⟩
theorem tm_ne {K : AV → Prop} {t : Tm} (h : K (boo (!decide (t = .zero)))) : aAgg Tryz.prog true 40 (.agg t.cs) (.agg Tm.zero.cs) K := by
  refine agg_by (ls := [.s, .b, .i .i64, .s]) (vs := [.string t.v, .bool t.b, .int .i64 t.n, .string t.s]) (ws := [.string emp, .bool false, .int .i64 0, .string emp]) (by kernel_rfl) (by kernel_rfl) (by kernel_rfl) rfl rfl rfl rfl (by simp [Fit, Leaf.ok]) (by simp [Fit, Leaf.ok]) ?_
  rcases t with ⟨v, b, n, s⟩
  simpa [eqL, eqLeaf, Tm.zero] using h
end
end Go.Proofs.YthdfpankebjleaaGreat

/-
  The weight of rules: what weighs little is small in all its parts.
  Conditions: none.
-/
namespace Go.Proofs.YthdfpankebjleaaGreat
open Go Go.Av

/-- What can lie in memory. -/
def Li.Wf (l : Li) : Prop := l.ar.length ≤ 140737488351232 ∧ l.nm.size ≤ 140737488351232
def Rl.Wf (r : Rl) : Prop := r.ar.length ≤ 140737488351232 ∧ r.nm.size ≤ 140737488351232 ∧ r.bo.length ≤ 140737488351232 ∧ ∀ l ∈ r.bo, l.Wf
/-- Small in its parts. -/
def Rl.Sm (r : Rl) (n : Int) : Prop := r.ar.length ≤ n ∧ r.bo.length ≤ n ∧ ∀ l ∈ r.bo, l.ar.length ≤ n
def Rl.S3 (r : Rl) : Prop := r.bo.length ≤ 300 ∧ ∀ l ∈ r.bo, l.ar.length ≤ 300
theorem Rl.Sm.up {r : Rl} {n m : Int} (h : r.Sm n) (hm : n ≤ m) : r.Sm m := ⟨by have := h.1; omega, by have := h.2.1; omega, fun l hl => by have := h.2.2 l hl; omega⟩
def rlC (l : List Rl) : List (List AV) := l.map Rl.cs
@[go_sem] theorem rlC_len (l : List Rl) : (rlC l).length = l.length := by simp [rlC]
theorem rlC_get {l : List Rl} {i : Nat} (h : i < l.length) : (rlC l).getD i [] = l[i].cs := by simp [rlC, List.getD_eq_getElem?_getD, h]
theorem fsl_weak {q : Nat} {σ : St} {es : List (List AV)} {l : List AV} : VWs σ σ (.fsl q es :: l) (.sl q es :: l) :=
  vws_cons (LAt.full.vw_same fun x ⟨n, c, e⟩ => by cases e) (vws_refl _)
theorem quo16 (n : Nat) : ((n : Int)).tdiv 16 = ((n / 16 : Nat) : Int) := by
  rw [Int.tdiv_eq_ediv_of_nonneg (by omega)]; rfl
theorem weigh {n : Int} {a b : Nat} (h0 : 0 ≤ n) (h1 : n ≤ 1000000) (ha : a ≤ 140737488351232) (hb : b ≤ 140737488351232) : IntKind.i64.wrap (n + IntKind.i64.wrap (IntKind.i64.wrap (1 + (a : Int)) + IntKind.i64.wrap (((b : Int)).tdiv 16))) = n + (1 + a + (b / 16 : Nat)) := by
  rw [quo16, wrap64 (x := ((b / 16 : Nat) : Int)) (by omega), wrap64 (x := 1 + (a : Int)) (by omega), wrap64 (x := 1 + (a : Int) + ((b / 16 : Nat) : Int)) (by omega), wrap64 (by omega)]

section
variable {σ : St}
theorem weightN_at (l : List Rl) (most : Int) (hl : l.length ≤ 140737488351232) (hw : ∀ r ∈ l, r.Wf) (h0 : 0 ≤ most) (h1 : most ≤ 1000000) : AT Tryz.prog 17 [.sl 11 (rlC l), int most] σ fun v σ' => (∃ w : Int, v = int w ∧ (w ≤ most → l.length ≤ most ∧ ∀ r ∈ l, r.Sm most)) ∧ σ' = σ := by
  refine AT.of_body Tryz.func17 rfl (by decide) (by kernel_rfl) (by kernel_rfl) (Nat.le_of_ble_eq_true rfl) ?_
  simp only [go_sem, r_block]
  refine ⟨fun m fr σ' => ∃ (i : Nat) (n : Int), m = l.length - i ∧ i ≤ l.length ∧ σ' = σ ∧ 0 ≤ n ∧ n ≤ 10000000000000000 ∧ (most < n ∨ i ≤ n ∧ ∀ r ∈ l.take i, r.Sm n) ∧ fr 0 = .sl 11 (rlC l) ∧ fr 1 = int most ∧ fr 5 = int n ∧ fr 6 = int i, ⟨_, 0, 0, rfl, by omega, rfl, by omega, by omega, .inr ⟨by omega, fun r hr => by simp at hr⟩, rfl, rfl, rfl, rfl⟩, ?_⟩
  rintro m fr σ ⟨i, n, rfl, hi, rfl, hn, hm, hs, f0, f1, f5, f6⟩
  have fin : ∀ (h : n ≤ most), i = l.length → l.length ≤ most ∧ ∀ r ∈ l, r.Sm most := fun h e => by
    subst e
    rw [List.take_of_length_le (Nat.le_refl _)] at hs
    obtain ⟨h1, h2⟩ := hs.resolve_left (by omega)
    exact ⟨by omega, fun r hr => (h2 r hr).up h⟩
  by_cases g1 : (i : Int) < l.length
  · by_cases g2 : n ≤ most
    · have hil : i < l.length := by omega
      have hwi := hw _ (List.getElem_mem hil)
      simp only [go_sem, r_block, f0, f1, f5, f6, decide_eq_true g1, decide_eq_true g2]
      refine aDraw_plan [.rd 0 false, .rd 1 false, .rd 2 false, .rd 3 false, .rd 4 false, .rd 5 true, .rd 6 false, .rd 7 false, .rd 8 false, .rd 9 false, .rd 10 false, .rd 11 false, .rd 12 true, .rd 13 false, .rd 14 false, .rd 15 false, .rd 16 false, .rd 17 false] (by kernel_rfl) (by kernel_rfl) (by kernel_rfl) ?_
      simp only [go_sem, r_block, f0, f1, f5, f6, rlC_get hil, weigh hn (show n ≤ 1000000 by omega) hwi.1 hwi.2.1]
      obtain ⟨n1, hn1⟩ : ∃ n1 : Int, n1 = n + (1 + l[i].ar.length + (l[i].nm.size / 16 : Nat)) := ⟨_, rfl⟩
      have hq := hwi.1
      have hq2 := hwi.2.1
      have hq3 := hwi.2.2.1
      have hs0 : (i : Int) + 1 ≤ n1 := by have := (hs.resolve_left (by omega)).1; omega
      have hs : ∀ r ∈ l.take i, r.Sm n1 := fun r hr => ((hs.resolve_left (by omega)).2 r hr).up (by omega)
      rw [← hn1]
      refine ⟨by omega, by omega, ?_⟩
      refine ⟨fun m fr σ' => ∃ (k : Nat) (n' : Int), m = l[i].bo.length - k ∧ k ≤ l[i].bo.length ∧ σ' = σ ∧ n1 ≤ n' ∧ n' ≤ 10000000000000000 ∧ (most < n' ∨ (k ≤ n' ∧ ∀ x ∈ l[i].bo.take k, (x.ar.length : Int) ≤ n')) ∧ fr 0 = .sl 11 (rlC l) ∧ fr 1 = int most ∧ fr 5 = int n' ∧ fr 6 = int i ∧ fr 7 = int k, ⟨_, 0, n1, rfl, by omega, rfl, by omega, by omega, .inr ⟨by omega, fun x hx => by simp at hx⟩, f0, f1, rfl, f6, rfl⟩, ?_⟩
      clear f0 f1 f5 f6 fr
      rintro m fr σ ⟨k, n', rfl, hk, rfl, hn', hm', hs', f0, f1, f5, f6, f7⟩
      by_cases g3 : (k : Int) < l[i].bo.length
      · by_cases g4 : n' ≤ most
        · have hkl : k < l[i].bo.length := by omega
          have hwk := hwi.2.2.2 _ (List.getElem_mem hkl)
          have hk1 := hwk.1
          have hk2 := hwk.2
          simp only [go_sem, r_block, f0, f1, f5, f6, f7, rlC_get hil, decide_eq_true g3, decide_eq_true g4]
          refine ⟨by omega, ?_⟩
          refine aDraw_plan [.rd 0 false, .rd 1 false, .rd 2 false, .rd 3 false, .rd 4 false, .rd 5 true, .rd 6 false, .rd 7 false, .rd 8 false, .rd 9 true, .rd 10 false, .rd 11 false, .rd 12 false, .rd 13 false, .rd 14 false, .rd 15 false, .rd 16 true, .rd 17 false, .rd 18 false, .rd 19 false, .rd 20 true, .rd 21 false, .rd 22 false, .rd 23 false, .rd 24 false, .rd 25 false] (by kernel_rfl) (by kernel_rfl) (by kernel_rfl) ?_
          simp only [go_sem, r_block, f0, f1, f5, f6, f7, rlC_get hil, liC_get hkl, weigh (show 0 ≤ n' by omega) (show n' ≤ 1000000 by omega) hwk.1 hwk.2, next64 (show k < 9223372036854775807 by omega)]
          refine ⟨by omega, by omega, by omega, by omega, l[i].bo.length - (k + 1), by omega, k + 1, _, rfl, by omega, ?_, ?_, ?_, rfl, rfl⟩
          · omega
          · omega
          · refine .inr ⟨by have := hs'.resolve_left (by omega); omega, fun x hx => ?_⟩
            rw [List.take_add_one, List.getElem?_eq_getElem hkl] at hx
            rcases List.mem_append.1 hx with hx | hx
            · have := (hs'.resolve_left (by omega)).2 x hx; omega
            · simp at hx; subst hx; omega
        · simp only [go_sem, r_block, f0, f1, f5, f6, f7, rlC_get hil, decide_eq_true g3, decide_eq_false g4, next64 (show i < 9223372036854775807 by omega)]
          exact ⟨by omega, l.length - (i + 1), by omega, i + 1, n', rfl, by omega, by omega, by omega, .inl (by omega), rfl, rfl⟩
      · simp only [go_sem, r_block, f0, f1, f5, f6, f7, rlC_get hil, decide_eq_false g3, next64 (show i < 9223372036854775807 by omega)]
        refine ⟨by omega, l.length - (i + 1), by omega, i + 1, n', rfl, by omega, by omega, by omega, ?_, rfl, rfl⟩
        refine hs'.imp _root_.id fun hs' => ⟨by omega, fun r hr => ?_⟩
        rw [List.take_add_one, List.getElem?_eq_getElem hil] at hr
        rw [List.take_of_length_le (show l[i].bo.length ≤ k by omega)] at hs'
        rcases List.mem_append.1 hr with hr | hr
        · exact (hs r hr).up hn'
        · simp at hr; subst hr; exact ⟨by omega, by omega, hs'.2⟩
    · simp only [go_sem, r_block, f0, f1, f5, f6, decide_eq_true g1, decide_eq_false g2]
      exact aRet_as (r := int n) rfl ⟨⟨n, rfl, fun h => by omega⟩, rfl⟩
  · simp only [go_sem, r_block, f0, f1, f5, f6, decide_eq_false g1]
    exact aRet_as (r := int n) rfl ⟨⟨n, rfl, fun h => fin h (by omega)⟩, rfl⟩
theorem weight_at (l : List Rl) (most : Int) (hl : l.length ≤ 140737488351232) (hw : ∀ r ∈ l, r.Wf) (h0 : 0 ≤ most) (h1 : most ≤ 1000000) : AT Tryz.prog 17 [.sl 11 (rlC l), int most] σ fun v σ' => (∃ w : Int, v = int w ∧ (w ≤ most → ∀ r ∈ l, r.Sm most)) ∧ σ' = σ :=
  (weightN_at l most hl hw h0 h1).mono fun v σ' ⟨⟨w, h1, h2⟩, h3⟩ => ⟨⟨w, h1, fun h => (h2 h).2⟩, h3⟩
end
end Go.Proofs.YthdfpankebjleaaGreat

/-
  The weight of facts; copies of facts; facts that are spoilt; the document's bodies.
  Conditions: none.
-/
namespace Go.Proofs.YthdfpankebjleaaGreat
open Go Go.Av

/-- What can lie in memory. -/
def Cn.Wf (c : Cn) : Prop := c.s.size ≤ 140737488351232
def Fa.Wf (f : Fa) : Prop := f.ar.length ≤ 140737488351232 ∧ f.at'.size ≤ 140737488351232 ∧ f.by'.size ≤ 140737488351232 ∧ f.pr.size ≤ 140737488351232 ∧ ∀ c ∈ f.ar, c.Wf
theorem weighF {n : Int} {a s1 s2 s3 : Nat} (h0 : 0 ≤ n) (h1 : n ≤ 1000000) (ha : a ≤ 140737488351232) (b1 : s1 ≤ 140737488351232) (b2 : s2 ≤ 140737488351232) (b3 : s3 ≤ 140737488351232) :
    IntKind.i64.wrap (n + IntKind.i64.wrap (IntKind.i64.wrap (1 + (a : Int)) + IntKind.i64.wrap ((IntKind.i64.wrap (IntKind.i64.wrap ((s1 : Int) + s2) + s3)).tdiv 16))) = n + (1 + a + ((s1 + s2 + s3) / 16 : Nat)) := by
  rw [wrap64 (x := (s1 : Int) + s2) (by omega), wrap64 (x := (s1 : Int) + s2 + s3) (by omega), show ((s1 : Int) + s2 + s3) = ((s1 + s2 + s3 : Nat) : Int) by omega, quo16, wrap64 (x := (((s1 + s2 + s3) / 16 : Nat) : Int)) (by omega), wrap64 (x := 1 + (a : Int)) (by omega), wrap64 (x := 1 + (a : Int) + (((s1 + s2 + s3) / 16 : Nat) : Int)) (by omega), wrap64 (by omega)]
theorem weighS {n : Int} {s : Nat} (h0 : 0 ≤ n) (h1 : n ≤ 1000000) (b : s ≤ 140737488351232) : IntKind.i64.wrap (n + IntKind.i64.wrap ((s : Int).tdiv 16)) = n + (s / 16 : Nat) := by
  rw [quo16, wrap64 (x := ((s / 16 : Nat) : Int)) (by omega), wrap64 (by omega)]
section
variable {σ : St}
theorem fweight_at (l : List Fa) (most : Int) (hl : l.length ≤ 140737488351232) (hw : ∀ f ∈ l, f.Wf) (h0 : 0 ≤ most) (h1 : most ≤ 1000000) : AT Tryz.prog 16 [.sl 4 (faC l), int most] σ fun v σ' => (∃ w : Int, v = int w ∧ (w ≤ most → l.length ≤ most ∧ ∀ f ∈ l, (f.ar.length : Int) ≤ most)) ∧ σ' = σ := by
  refine AT.of_body Tryz.func16 rfl (by decide) (by kernel_rfl) (by kernel_rfl) (Nat.le_of_ble_eq_true rfl) ?_
  simp only [go_sem, r_block]
  refine ⟨fun m fr σ' => ∃ (i : Nat) (n : Int), m = l.length - i ∧ i ≤ l.length ∧ σ' = σ ∧ 0 ≤ n ∧ n ≤ 10000000000000000 ∧ (most < n ∨ i ≤ n ∧ ∀ f ∈ l.take i, (f.ar.length : Int) ≤ n) ∧ fr 0 = .sl 4 (faC l) ∧ fr 1 = int most ∧ fr 5 = int n ∧ fr 6 = int i, ⟨_, 0, 0, rfl, by omega, rfl, by omega, by omega, .inr ⟨by omega, fun r hr => by simp at hr⟩, rfl, rfl, rfl, rfl⟩, ?_⟩
  rintro m fr σ ⟨i, n, rfl, hi, rfl, hn, hm, hs, f0, f1, f5, f6⟩
  by_cases g1 : (i : Int) < l.length
  · by_cases g2 : n ≤ most
    · have hil : i < l.length := by omega
      have hwi := hw _ (List.getElem_mem hil)
      obtain ⟨hs0, hs⟩ := hs.resolve_left (by omega)
      simp only [go_sem, r_block, f0, f1, f5, f6, decide_eq_true g1, decide_eq_true g2]
      refine aDraw_plan [.rd 0 false, .rd 1 false, .rd 2 false, .rd 3 false, .rd 4 false, .rd 5 true, .rd 6 false, .rd 7 false, .rd 8 false, .rd 9 false, .rd 10 false, .rd 11 false, .rd 12 true, .rd 13 false, .rd 14 false, .rd 15 false, .rd 16 false, .rd 17 false, .rd 18 true, .rd 19 false, .rd 20 false, .rd 21 false, .rd 22 false, .rd 23 false, .rd 24 false, .rd 25 true, .rd 26 false, .rd 27 false, .rd 28 false, .rd 29 false, .rd 30 false, .rd 31 false] (by kernel_rfl) (by kernel_rfl) (by kernel_rfl) ?_
      obtain ⟨X, hX⟩ : ∃ X, X = l[i] := ⟨_, rfl⟩
      have eg : (faC l).getD i [] = X.cs := by rw [hX]; exact faC_get hil
      rw [← hX] at hwi
      have ew := weighF hn (show n ≤ 1000000 by omega) hwi.1 hwi.2.1 hwi.2.2.1 hwi.2.2.2.1
      simp only [go_sem, r_block, f0, f1, f5, f6, eg, ew]
      obtain ⟨n1, hn1⟩ : ∃ n1 : Int, n1 = n + (1 + X.ar.length + ((X.at'.size + X.by'.size + X.pr.size) / 16 : Nat)) := ⟨_, rfl⟩
      have hq := hwi.1
      have hq2 := hwi.2.1
      have hq3 := hwi.2.2.1
      have hq4 := hwi.2.2.2.1
      have hs : ∀ f ∈ l.take (i + 1), (f.ar.length : Int) ≤ n1 := fun f hf => by
        rw [List.take_add_one, List.getElem?_eq_getElem hil] at hf
        rcases List.mem_append.1 hf with hf | hf
        · have := hs f hf; omega
        · simp at hf; subst hf; rw [← hX]; omega
      rw [← hn1]
      refine ⟨by omega, by omega, by omega, by omega, ?_⟩
      refine ⟨fun m fr σ' => ∃ (k : Nat) (n' : Int), m = X.ar.length - k ∧ k ≤ X.ar.length ∧ σ' = σ ∧ n1 ≤ n' ∧ n' ≤ 10000000000000000 ∧ fr 0 = .sl 4 (faC l) ∧ fr 1 = int most ∧ fr 5 = int n' ∧ fr 6 = int i ∧ fr 7 = int k, ⟨_, 0, n1, rfl, by omega, rfl, by omega, by omega, f0, f1, rfl, f6, rfl⟩, ?_⟩
      clear f0 f1 f5 f6 fr
      rintro m fr σ ⟨k, n', rfl, hk, rfl, hn', hm', f0, f1, f5, f6, f7⟩
      have nx : ∃ m', m' < l.length - i ∧ ∃ (i' : Nat) (n'' : Int), m' = l.length - i' ∧ i' ≤ l.length ∧ 0 ≤ n'' ∧ n'' ≤ 10000000000000000 ∧ (most < n'' ∨ i' ≤ n'' ∧ ∀ f ∈ l.take i', (f.ar.length : Int) ≤ n'') ∧ n'' = n' ∧ i' = i + 1 :=
        ⟨l.length - (i + 1), by omega, i + 1, n', rfl, by omega, by omega, by omega, .inr ⟨by omega, fun f hf => by have := hs f hf; omega⟩, rfl, rfl⟩
      by_cases g3 : (k : Int) < X.ar.length
      · by_cases g4 : n' ≤ most
        · have hkl : k < X.ar.length := by omega
          have hwk := hwi.2.2.2.2 _ (List.getElem_mem hkl)
          unfold Cn.Wf at hwk
          have ew2 := weighS (show 0 ≤ n' by omega) (show n' ≤ 1000000 by omega) hwk
          simp only [go_sem, r_block, f0, f1, f5, f6, f7, eg, decide_eq_true g3, decide_eq_true g4, cnC_get hkl, ew2, next64 (show k < 9223372036854775807 by omega)]
          refine ⟨by omega, by omega, by omega, X.ar.length - (k + 1), by omega, k + 1, _, rfl, by omega, ?_, ?_, rfl, rfl⟩
          · omega
          · omega
        · simp only [go_sem, r_block, f0, f1, f5, f6, f7, eg, decide_eq_true g3, decide_eq_false g4, next64 (show i < 9223372036854775807 by omega)]
          obtain ⟨m', h1, i', n'', h2, h3, h4, h5, h6, rfl, rfl⟩ := nx
          exact ⟨by omega, m', h1, i + 1, n'', h2, h3, h4, h5, h6, rfl, rfl⟩
      · simp only [go_sem, r_block, f0, f1, f5, f6, f7, eg, decide_eq_false g3, next64 (show i < 9223372036854775807 by omega)]
        obtain ⟨m', h1, i', n'', h2, h3, h4, h5, h6, rfl, rfl⟩ := nx
        exact ⟨by omega, m', h1, i + 1, n'', h2, h3, h4, h5, h6, rfl, rfl⟩
    · simp only [go_sem, r_block, f0, f1, f5, f6, decide_eq_true g1, decide_eq_false g2]
      exact aRet_as (r := int n) rfl ⟨⟨n, rfl, fun h => by omega⟩, rfl⟩
  · simp only [go_sem, r_block, f0, f1, f5, f6, decide_eq_false g1]
    refine aRet_as (r := int n) rfl ⟨⟨n, rfl, fun h => ?_⟩, rfl⟩
    have hs := hs.resolve_left (by omega)
    rw [List.take_of_length_le (by omega)] at hs
    exact ⟨by omega, fun f hf => by have := hs.2 f hf; omega⟩
end
end Go.Proofs.YthdfpankebjleaaGreat

/-
  A statement's rules.
  Conditions: none.
-/
namespace Go.Proofs.YthdfpankebjleaaGreat
open Go Go.Av

theorem tm_of {n : Nat} {cs : List AV} (h : Ty Tryz.prog (n + 3) 40 cs) : ∃ t : Tm, cs = t.cs := by
  have hx := ty_st Tryz.underlying40 h
  obtain ⟨x1, y1, rfl, h1, x2, y2, rfl, h2, rfl⟩ := hx
  obtain ⟨v, rfl, _⟩ := ty_str Tryz.underlying9 h1
  have hc := ty_st Tryz.underlying38 h2
  obtain ⟨x3, y3, rfl, h3, x4, y4, rfl, h4, x5, y5, rfl, h5, rfl⟩ := hc
  obtain ⟨b, rfl⟩ := ty_bool Tryz.underlying4 h3
  obtain ⟨k, rfl, _⟩ := ty_int Tryz.underlying3 h4
  obtain ⟨s, rfl, _⟩ := ty_str Tryz.underlying9 h5
  exact ⟨⟨v, b, k, s⟩, rfl⟩
theorem tms_of {n : Nat} : ∀ (es : List (List AV)), (∀ x ∈ es, Ty Tryz.prog (n + 3) 40 x) → ∃ l : List Tm, es = tmC l
  | [], _ => ⟨[], rfl⟩
  | x :: es, h => by
    obtain ⟨l, rfl⟩ := tms_of es fun y hy => h y (by simp [hy])
    obtain ⟨t, rfl⟩ := tm_of (h x (by simp))
    exact ⟨t :: l, rfl⟩
theorem li_of {n : Nat} {cs : List AV} (h : Ty Tryz.prog (n + 5) 75 cs) : ∃ l : Li, cs = l.cs ∧ l.Wf := by
  have hx := ty_st Tryz.underlying75 h
  obtain ⟨x1, y1, rfl, h1, x2, y2, rfl, h2, x3, y3, rfl, h3, x4, y4, rfl, h4, rfl⟩ := hx
  obtain ⟨a, rfl⟩ := tm_of h1
  obtain ⟨nm, rfl, hn⟩ := ty_str Tryz.underlying9 h2
  obtain ⟨es, rfl, hl, he⟩ := ty_sl Tryz.underlying41 h3
  obtain ⟨ts, rfl⟩ := tms_of es he
  obtain ⟨c, rfl⟩ := tm_of h4
  have e1 : Tryz.prog.cellsOf 40 = 4 := by kernel_rfl
  have e2 : Tryz.prog.bytesOf 40 = 48 := by kernel_rfl
  rw [e1]
  rw [e2, tmC_len] at hl
  exact ⟨⟨a, nm, ts, c⟩, rfl, by show ts.length ≤ _; omega, hn⟩
theorem lis_of {n : Nat} : ∀ (es : List (List AV)), (∀ x ∈ es, Ty Tryz.prog (n + 5) 75 x) → ∃ l : List Li, es = liC l ∧ ∀ x ∈ l, x.Wf
  | [], _ => ⟨[], rfl, fun x hx => by cases hx⟩
  | x :: es, h => by
    obtain ⟨l, rfl, hl⟩ := lis_of es fun y hy => h y (by simp [hy])
    obtain ⟨t, rfl, ht⟩ := li_of (h x (by simp))
    exact ⟨t :: l, rfl, fun y hy => by rcases List.mem_cons.1 hy with rfl | hy; exact ht; exact hl y hy⟩
theorem rl_of {n : Nat} {cs : List AV} (h : Ty Tryz.prog (n + 7) 44 cs) : ∃ r : Rl, cs = r.cs ∧ r.Wf := by
  have hx := ty_st Tryz.underlying44 h
  obtain ⟨x1, y1, rfl, h1, x2, y2, rfl, h2, x3, y3, rfl, h3, x4, y4, rfl, h4, x5, y5, rfl, h5, rfl⟩ := hx
  obtain ⟨a, rfl⟩ := tm_of h1
  obtain ⟨nm, rfl, hn⟩ := ty_str Tryz.underlying9 h2
  obtain ⟨es, rfl, hl, he⟩ := ty_sl Tryz.underlying41 h3
  obtain ⟨ts, rfl⟩ := tms_of es he
  obtain ⟨c, rfl⟩ := tm_of h4
  obtain ⟨es, rfl, hl2, he⟩ := ty_sl Tryz.underlying42 h5
  obtain ⟨ls, rfl, hls⟩ := lis_of es he
  have e1 : Tryz.prog.cellsOf 40 = 4 := by kernel_rfl
  have e2 : Tryz.prog.bytesOf 40 = 48 := by kernel_rfl
  have e3 : Tryz.prog.cellsOf 75 = 10 := by kernel_rfl
  have e4 : Tryz.prog.bytesOf 75 = 136 := by kernel_rfl
  rw [e1, e3]
  rw [e2, tmC_len] at hl
  rw [e4, liC_len] at hl2
  exact ⟨⟨a, nm, ts, c, ls⟩, rfl, by show ts.length ≤ _; omega, hn, by show ls.length ≤ _; omega, hls⟩
end Go.Proofs.YthdfpankebjleaaGreat

/-
  A statement's arguments, as facts, rules.
  Conditions: none.
-/
namespace Go.Proofs.YthdfpankebjleaaGreat
open Go Go.Av

theorem cn_of {n : Nat} {cs : List AV} (h : Ty Tryz.prog (n + 3) 38 cs) : ∃ c : Cn, cs = c.cs ∧ c.Wf := by
  have hx := ty_st Tryz.underlying38 h
  obtain ⟨x1, y1, rfl, h1, x2, y2, rfl, h2, x3, y3, rfl, h3, rfl⟩ := hx
  obtain ⟨b, rfl⟩ := ty_bool Tryz.underlying4 h1
  obtain ⟨k, rfl, _⟩ := ty_int Tryz.underlying3 h2
  obtain ⟨s, rfl, hs⟩ := ty_str Tryz.underlying9 h3
  exact ⟨⟨b, k, s⟩, rfl, hs⟩
theorem cns_of {n : Nat} : ∀ (es : List (List AV)), (∀ x ∈ es, Ty Tryz.prog (n + 3) 38 x) → ∃ l : List Cn, es = cnC l ∧ ∀ c ∈ l, c.Wf
  | [], _ => ⟨[], rfl, fun x hx => by cases hx⟩
  | x :: es, h => by
    obtain ⟨l, rfl, hl⟩ := cns_of es fun y hy => h y (by simp [hy])
    obtain ⟨t, rfl, ht⟩ := cn_of (h x (by simp))
    exact ⟨t :: l, rfl, fun y hy => by rcases List.mem_cons.1 hy with rfl | hy; exact ht; exact hl y hy⟩
theorem fa_of {n : Nat} {cs : List AV} (h : Ty Tryz.prog (n + 5) 47 cs) : ∃ f : Fa, cs = f.cs ∧ f.Wf := by
  have hx := ty_st Tryz.underlying47 h
  obtain ⟨x1, y1, rfl, h1, x2, y2, rfl, h2, x3, y3, rfl, h3, x4, y4, rfl, h4, rfl⟩ := hx
  obtain ⟨a, rfl, ha⟩ := ty_str Tryz.underlying9 h1
  obtain ⟨b, rfl, hb⟩ := ty_str Tryz.underlying9 h2
  obtain ⟨p, rfl, hp⟩ := ty_str Tryz.underlying9 h3
  obtain ⟨es, rfl, hl, he⟩ := ty_sl Tryz.underlying45 h4
  obtain ⟨ts, rfl, hts⟩ := cns_of es he
  have e1 : Tryz.prog.cellsOf 38 = 3 := by kernel_rfl
  have e2 : Tryz.prog.bytesOf 38 = 32 := by kernel_rfl
  rw [e1]
  rw [e2, cnC_len] at hl
  exact ⟨⟨a, b, p, ts⟩, rfl, by show ts.length ≤ _; omega, ha, hb, hp, hts⟩
theorem fas_of {n : Nat} : ∀ (es : List (List AV)), (∀ x ∈ es, Ty Tryz.prog (n + 5) 47 x) → ∃ l : List Fa, es = faC l ∧ ∀ x ∈ l, x.Wf
  | [], _ => ⟨[], rfl, fun x hx => by cases hx⟩
  | x :: es, h => by
    obtain ⟨l, rfl, hl⟩ := fas_of es fun y hy => h y (by simp [hy])
    obtain ⟨t, rfl, ht⟩ := fa_of (h x (by simp))
    exact ⟨t :: l, rfl, fun y hy => by rcases List.mem_cons.1 hy with rfl | hy; exact ht; exact hl y hy⟩
theorem fal_of {n : Nat} {cs : List AV} (h : Ty Tryz.prog (n + 6) 24 cs) : ∃ l : List Fa, cs = [.sl 4 (faC l)] ∧ l.length * 72 ≤ 140737488351232 ∧ ∀ x ∈ l, x.Wf := by
  obtain ⟨es, rfl, hl, he⟩ := ty_sl Tryz.underlying24 h
  obtain ⟨ts, rfl, hts⟩ := fas_of es he
  have e1 : Tryz.prog.cellsOf 47 = 4 := by kernel_rfl
  have e2 : Tryz.prog.bytesOf 47 = 72 := by kernel_rfl
  rw [e1]
  rw [e2, faC_len] at hl
  exact ⟨ts, rfl, by omega, hts⟩
end Go.Proofs.YthdfpankebjleaaGreat

/-
  Lists of facts, and lists of these, held against each other, as the document reckons it.
  Conditions: none.
-/
namespace Go.Proofs.YthdfpankebjleaaGreat
open Go Go.Av

theorem BX.rd {σ : St} {b : List Fa} {lv : AV} (h : BX σ b lv) : ∃ es, Rd 4 σ lv es ∧ es.length = b.length ∧ ∀ i (hi : i < b.length), FX σ b[i] (es.getD i []) := h
theorem FX.len {σ : St} {f : Fa} {e : List AV} (h : FX σ f e) : e.length = 4 := by obtain ⟨v, rfl, _⟩ := h; rfl
theorem FX.take {σ : St} {f : Fa} {e : List AV} (h : FX σ f e) : e.take 4 = e := List.take_of_length_le (by rw [h.len]; omega)
section
variable {σ : St}
theorem likeF_at {a b : List Fa} {lv lw : AV} (ha : BX σ a lv) (hb : BX σ b lw) (sa : a.length ≤ 1000000000) (sa' : ∀ x ∈ a, x.Sm) (sb : b.length ≤ 1000000000) (sb' : ∀ x ∈ b, x.Sm) : AT Tryz.prog 14 [lv, lw] σ fun r σ' => r = boo (decide (a = b)) ∧ σ' = σ := by
  obtain ⟨es, h1, h2, h3⟩ := ha
  obtain ⟨es', k1, k2, k3⟩ := hb
  refine AT.of_body Tryz.func14 rfl (by decide) (by kernel_rfl) (by kernel_rfl) (Nat.le_of_ble_eq_true rfl) ?_
  simp only [go_sem, h1.len, k1.len]
  by_cases hl : a.length = b.length
  · have d := decide_eq_true (show (es.length : Int) = es'.length by omega)
    simp only [go_sem, r_block, d]
    refine ⟨fun m fr σ' => ∃ i : Nat, m = a.length - i ∧ i ≤ a.length ∧ σ' = σ ∧ a.take i = b.take i ∧ fr 0 = lv ∧ fr 1 = lw ∧ fr 5 = int i, ⟨_, 0, rfl, by omega, rfl, rfl, rfl, rfl, rfl⟩, ?_⟩
    rintro m fr σ ⟨i, rfl, hi, rfl, hI, f0, f1, f5⟩
    simp only [go_sem, f0, f1, f5, h1.len]
    refine aIf_by (fun hlt => ?_) (fun hlt => ?_)
    · have hia : i < a.length := by omega
      have hib : i < b.length := by omega
      have x1 := h3 i hia
      have x2 := k3 i hib
      simp only [go_sem, r_block]
      refine aDraw_plan [.rd 0 false, .rd 1 false, .rd 2 false, .rd 3 true, .rd 4 false, .rd 5 false, .rd 6 false, .rd 7 true, .ef 8 [], .rd 9 false] (by kernel_rfl) (by kernel_rfl) (by kernel_rfl) ?_
      simp only [go_sem, r_block, f0, f1, f5]
      refine h1.elem (by omega) (by omega) fun p hp => ?_
      simp only [go_sem, r_block]
      refine hp.load (by decide) (by rw [Int.toNat_natCast, x1.len]; exact Nat.le_refl 4) ?_
      simp only [go_sem, r_block, f0, f1, f5]
      refine k1.elem (by omega) (by omega) fun p' hp' => ?_
      simp only [go_sem, r_block]
      refine hp'.load (by decide) (by rw [Int.toNat_natCast, x2.len]; exact Nat.le_refl 4) ?_
      simp only [go_sem, r_block, f0, f1, f5, x1.take, x2.take]
      refine (rord_at x1 x2 (sa' _ (List.getElem_mem hia)) (sb' _ (List.getElem_mem hib))).mono ?_
      rintro _ σ ⟨rfl, rfl⟩
      simp only [go_sem, r_block]
      by_cases h0 : cmpF a[i] b[i] = 0
      · have e := (cmpF_ord.zero _ _).1 h0
        simp only [go_sem, r_block, h0, f0, f1, f5, next64 (show i < 9223372036854775807 by omega)]
        refine ⟨a.length - (i + 1), by omega, i + 1, ?_⟩
        have hI' : a.take (i + 1) = b.take (i + 1) := by
          rw [List.take_add_one, List.take_add_one, hI, List.getElem?_eq_getElem hia, List.getElem?_eq_getElem hib, e]
        (and_intros <;> first | assumption | rfl | omega)
      · have d0 := decide_eq_false h0
        simp only [go_sem, r_block, d0]
        refine aRet_as (r := boo false) rfl ⟨?_, rfl⟩
        rw [decide_eq_false fun e => h0 ((cmpF_ord.zero _ _).2 (by simp only [e]))]
    · simp only [go_sem, r_block]
      rw [List.take_of_length_le (by omega), List.take_of_length_le (by omega)] at hI
      exact aRet_as (r := boo true) rfl ⟨by rw [decide_eq_true hI], rfl⟩
  · have d := decide_eq_false (show ¬ (es.length : Int) = es'.length by omega)
    simp only [go_sem, d]
    exact aRet_as (r := boo false) rfl ⟨by rw [decide_eq_false fun e => hl (by rw [e])], rfl⟩
theorem hasF_at (l : List Fa) (f : Fa) (hl : l.length ≤ 1000000000) (sl : ∀ x ∈ l, x.Sm) (sf : f.Sm) : AT Tryz.prog 20 [.sl 4 (faC l), .agg f.cs] σ fun r σ' => r = boo (decide (f ∈ l)) ∧ σ' = σ := by
  refine AT.of_body Tryz.func20 rfl (by decide) (by kernel_rfl) (by kernel_rfl) (Nat.le_of_ble_eq_true rfl) ?_
  simp only [go_sem]
  refine Ctx.nil.alloc fun q σ1 c1 => ?_
  simp only [go_sem, r_block]
  refine ⟨fun m fr σ' => ∃ i : Nat, m = l.length - i ∧ i ≤ l.length ∧ σ' = σ1 ∧ f ∉ l.take i ∧ fr 0 = .sl 4 (faC l) ∧ fr 3 = ptr q ∧ fr 5 = int i, ⟨_, 0, rfl, by omega, rfl, by simp, rfl, rfl, rfl⟩, ?_⟩
  rintro m fr σ1 ⟨i, rfl, hi, rfl, hI, f0, f3, f5⟩
  simp only [go_sem, f0, f3, f5]
  refine aIf_by (fun hlt => ?_) (fun hlt => ?_)
  · have hil : i < l.length := by omega
    simp only [go_sem, r_block]
    refine aDraw_plan [.rd 0 false, .rd 1 false, .rd 2 false, .rd 3 true, .rd 4 true, .ef 5 [], .rd 6 false] (by kernel_rfl) (by kernel_rfl) (by kernel_rfl) ?_
    simp only [go_sem, r_block, f0, f3, f5, faC_get hil, c1.g0]
    refine ⟨by omega, (rord_at (x := l[i]) (y := f) .cs .cs (sl _ (List.getElem_mem hil)) sf).mono ?_⟩
    rintro _ σ1 ⟨rfl, rfl⟩
    simp only [go_sem, r_block]
    refine aIf_by (fun h0 => ?_) (fun h0 => ?_)
    · have e := (cmpF_ord.zero _ _).1 h0
      simp only [go_sem, r_block]
      exact aRet_view (r := boo true) rfl _ σ (c1.view _) ⟨by rw [decide_eq_true (e ▸ List.getElem_mem hil)], rfl⟩
    · simp only [go_sem, r_block, f0, f3, f5, next64 (show i < 9223372036854775807 by omega)]
      refine ⟨l.length - (i + 1), by omega, i + 1, ?_⟩
      have hI' : f ∉ l.take (i + 1) := by
        rw [List.take_add_one, List.getElem?_eq_getElem hil]
        simp only [Option.toList, List.mem_append, List.mem_singleton, not_or]
        exact ⟨hI, fun e => h0 ((cmpF_ord.zero _ _).2 e.symm)⟩
      (and_intros <;> first | assumption | rfl | omega)
  · simp only [go_sem, r_block]
    rw [List.take_of_length_le (by omega)] at hI
    exact aRet_view (r := boo false) rfl _ σ (c1.view _) ⟨by rw [decide_eq_false hI], rfl⟩
theorem rcmpB_at (a b : List Fa) (sa : a.length ≤ 1000000000) (sa' : ∀ x ∈ a, x.Sm) (sb : b.length ≤ 1000000000) (sb' : ∀ x ∈ b, x.Sm) : AT Tryz.prog 28 [.sl 4 (faC a), .sl 4 (faC b)] σ fun r σ' => r = int (cmpB a b) ∧ σ' = σ := by
  refine AT.of_body Tryz.func28 rfl (by decide) (by kernel_rfl) (by kernel_rfl) (Nat.le_of_ble_eq_true rfl) ?_
  simp only [go_sem, r_block]
  refine ⟨fun m fr σ' => ∃ i : Nat, m = a.length - i ∧ i ≤ a.length ∧ i ≤ b.length ∧ σ' = σ ∧ cmpL cmpF (a.drop i) (b.drop i) = cmpL cmpF a b ∧ fr 0 = .sl 4 (faC a) ∧ fr 1 = .sl 4 (faC b) ∧ fr 5 = int i, ⟨_, 0, rfl, by omega, by omega, rfl, rfl, rfl, rfl, rfl⟩, ?_⟩
  rintro m fr σ ⟨i, rfl, hi1, hi2, rfl, hI, f0, f1, f5⟩
  by_cases g : i < a.length ∧ i < b.length
  · obtain ⟨g1, g2⟩ := g
    rw [cmpL_step g1 g2] at hI
    have d1 := decide_eq_true (show (i : Int) < a.length by omega)
    have d2 := decide_eq_true (show (i : Int) < b.length by omega)
    simp only [go_sem, r_block, f0, f1, f5, d1, d2]
    refine aDraw_plan [.rd 0 false, .rd 1 false, .rd 2 false, .rd 3 true, .rd 4 false, .rd 5 false, .rd 6 false, .rd 7 true, .ef 8 [], .rd 9 false] (by kernel_rfl) (by kernel_rfl) (by kernel_rfl) ?_
    simp only [go_sem, r_block, f0, f1, f5, faC_get g1, faC_get g2]
    refine ⟨by omega, by omega, (rord_at (x := a[i]) (y := b[i]) .cs .cs (sa' _ (List.getElem_mem g1)) (sb' _ (List.getElem_mem g2))).mono ?_⟩
    rintro _ σ ⟨rfl, rfl⟩
    simp only [go_sem, r_block]
    refine aIf_by (fun h0 => ?_) (fun h0 => ?_)
    · rw [if_pos h0] at hI
      simp only [go_sem, r_block, f0, f1, f5, next64 (show i < 9223372036854775807 by omega)]
      refine ⟨a.length - (i + 1), by omega, i + 1, ?_⟩
      (and_intros <;> first | assumption | rfl | omega)
    · rw [if_neg h0] at hI
      simp only [go_sem, r_block]
      exact aRet_as (r := int _) rfl ⟨by unfold cmpB; rw [← hI], rfl⟩
  · have fin : cmpB a b = if a.length < b.length then -1 else if b.length < a.length then 1 else 0 := by unfold cmpB; rw [← hI, cmpL_end hi1 hi2 g]
    by_cases g1 : i < a.length
    · have d1 := decide_eq_true (show (i : Int) < a.length by omega)
      have d2 := decide_eq_false (show ¬ (i : Int) < b.length by omega)
      have d3 := decide_eq_false (show ¬ (a.length : Int) < b.length by omega)
      have d4 := decide_eq_true (show (b.length : Int) < a.length by omega)
      rw [if_neg (by omega), if_pos (by omega)] at fin
      simp only [go_sem, r_block, f0, f1, f5, d1, d2, d3, d4]
      exact aRet_as (r := int 1) rfl ⟨by rw [fin], rfl⟩
    · have d1 := decide_eq_false (show ¬ (i : Int) < a.length by omega)
      simp only [go_sem, r_block, f0, f1, f5, d1]
      refine aIf_by (fun h0 => ?_) (fun h0 => ?_)
      · rw [if_pos (by omega)] at fin
        simp only [go_sem, r_block]
        exact aRet_as (r := int (-1)) rfl ⟨by rw [fin], rfl⟩
      · rw [if_neg (by omega), if_neg (by omega)] at fin
        have d4 := decide_eq_false (show ¬ (b.length : Int) < a.length by omega)
        simp only [go_sem, r_block, f0, f1, d4]
        exact aRet_as (r := int 0) rfl ⟨by rw [fin], rfl⟩
/-- A list of lists of facts that can be read. -/
def LX (σ : St) (l : List (List Fa)) (lv : AV) : Prop := ∃ es, Rd 1 σ lv es ∧ es.length = l.length ∧ ∀ i (h : i < l.length), ∃ v, es.getD i [] = [v] ∧ BX σ l[i] v
def SmB (b : List Fa) : Prop := b.length ≤ 1000000000 ∧ ∀ x ∈ b, x.Sm
end
end Go.Proofs.YthdfpankebjleaaGreat

/-
  Lists that rise; what is put in at its place, once; sorted and each once; the document's finder.
  Conditions: none.
-/
namespace Go.Proofs.YthdfpankebjleaaGreat
open Go Go.Av

section
variable {α : Type} {c : α → α → Int}
def Rises (c : α → α → Int) (l : List α) : Prop := l.Pairwise fun x y => c x y < 0
/-- Put in at its place, once. -/
def insF (c : α → α → Int) (b : α) : List α → List α
  | [] => [b]
  | x :: l => if c x b < 0 then x :: insF c b l else if c x b = 0 then x :: l else b :: x :: l
theorem ins_mem (h : Ord3 c) {b y : α} : ∀ {l : List α}, y ∈ insF c b l ↔ y = b ∨ y ∈ l
  | [] => by simp [insF]
  | x :: l => by
    unfold insF
    split
    · rw [List.mem_cons, ins_mem h, List.mem_cons]
      constructor <;> rintro (h | h | h) <;> simp [h]
    · split
      · rename_i h0
        have := (h.zero x b).1 h0
        subst this
        simp
      · simp
theorem ins_rises (h : Ord3 c) {b : α} : ∀ {l : List α}, Rises c l → Rises c (insF c b l)
  | [], _ => by simp [insF, Rises]
  | x :: l, hl => by
    obtain ⟨h1, h2⟩ := List.pairwise_cons.1 hl
    unfold insF
    split
    · rename_i hx
      refine List.pairwise_cons.2 ⟨fun y hy => ?_, ins_rises h h2⟩
      rcases (ins_mem h).1 hy with rfl | hy
      · exact hx
      · exact h1 y hy
    · split
      · exact hl
      · rename_i hx h0
        have hb : c b x < 0 := (h.anti b x).2 (by omega)
        exact List.pairwise_cons.2 ⟨fun y hy => by
          rcases List.mem_cons.1 hy with rfl | hy
          · exact hb
          · exact h.trans _ _ _ hb (h1 y hy), hl⟩
theorem ins_len {b : α} : ∀ {l : List α}, (insF c b l).length ≤ l.length + 1
  | [] => by simp [insF]
  | x :: l => by
    unfold insF
    have := ins_len (b := b) (l := l)
    split
    · simp only [List.length_cons]; omega
    · split <;> simp
theorem ins_ge {b : α} : ∀ {l : List α}, l.length ≤ (insF c b l).length
  | [] => by simp [insF]
  | x :: l => by
    unfold insF
    have := ins_ge (b := b) (l := l)
    split
    · simp only [List.length_cons]; omega
    · split <;> simp
/-- Where all ahead of place k are less. -/
theorem ins_at {b : α} : ∀ {l : List α} {k : Nat}, k ≤ l.length → (∀ i (hi : i < k) (hl : i < l.length), c l[i] b < 0) → (∀ hk : k < l.length, ¬ c l[k] b < 0) →
    insF c b l = if (∃ hk : k < l.length, c l[k] b = 0) then l else l.take k ++ b :: l.drop k
  | [], k, hk, _, _ => by
    have : k = 0 := by simpa using hk
    subst this
    rw [if_neg (by rintro ⟨h, _⟩; simp at h)]
    simp [insF]
  | x :: l, 0, hk, h1, h2 => by
    unfold insF
    have hx : ¬ c x b < 0 := h2 (by simp)
    rw [if_neg hx]
    by_cases h0 : c x b = 0
    · rw [if_pos h0, if_pos ⟨by simp, h0⟩]
    · rw [if_neg h0, if_neg (by rintro ⟨_, h⟩; exact h0 h)]
      simp
  | x :: l, k + 1, hk, h1, h2 => by
    unfold insF
    rw [if_pos (show c x b < 0 from h1 0 (by omega) (by simp)), ins_at (l := l) (k := k) (by simpa using hk) (fun i hi hl => h1 (i + 1) (by omega) (by simpa using hl)) (fun hk => h2 (by simpa using hk))]
    by_cases h0 : ∃ hk : k < l.length, c l[k] b = 0
    · obtain ⟨g1, g2⟩ := h0
      rw [if_pos ⟨g1, g2⟩, if_pos ⟨by simpa using g1, g2⟩]
    · rw [if_neg h0, if_neg (by rintro ⟨g1, g2⟩; exact h0 ⟨by simpa using g1, g2⟩)]
      simp
theorem rises_ext (h : Ord3 c) : ∀ {l k : List α}, Rises c l → Rises c k → (∀ y, y ∈ l ↔ y ∈ k) → l = k
  | [], [], _, _, _ => rfl
  | [], y :: k, _, _, hm => by have := (hm y).2 (by simp); cases this
  | x :: l, [], _, _, hm => by have := (hm x).1 (by simp); cases this
  | x :: l, y :: k, hl, hk, hm => by
    obtain ⟨h1, h2⟩ := List.pairwise_cons.1 hl
    obtain ⟨k1, k2⟩ := List.pairwise_cons.1 hk
    have irr : ∀ z, ¬ c z z < 0 := fun z hz => by rw [h.self] at hz; omega
    have hxy : x = y := by
      rcases List.mem_cons.1 ((hm x).1 (by simp)) with e | e
      · exact e
      · rcases List.mem_cons.1 ((hm y).2 (by simp)) with e' | e'
        · exact e'.symm
        · exact absurd (h.trans _ _ _ (k1 x e) (h1 y e')) (irr _)
    subst hxy
    have nl : x ∉ l := fun hx => irr _ (h1 x hx)
    have nk : x ∉ k := fun hx => irr _ (k1 x hx)
    rw [rises_ext h h2 k2 fun y => ?_]
    constructor
    · intro hy
      rcases List.mem_cons.1 ((hm y).1 (List.mem_cons_of_mem _ hy)) with e | e
      · subst e; exact absurd hy nl
      · exact e
    · intro hy
      rcases List.mem_cons.1 ((hm y).2 (List.mem_cons_of_mem _ hy)) with e | e
      · subst e; exact absurd hy nk
      · exact e
theorem rises_nodup (h : Ord3 c) {l : List α} (hl : Rises c l) : l.Nodup := hl.imp fun {x y} hxy e => by subst e; rw [h.self] at hxy; omega
/-- Put in one by one. -/
def insS (c : α → α → Int) (s l : List α) : List α := l.foldl (fun s b => insF c b s) s
theorem insS_rises (h : Ord3 c) : ∀ {l s : List α}, Rises c s → Rises c (insS c s l)
  | [], s, hs => hs
  | x :: l, s, hs => insS_rises h (l := l) (ins_rises h hs)
theorem insS_mem (h : Ord3 c) {y : α} : ∀ {l s : List α}, y ∈ insS c s l ↔ y ∈ l ∨ y ∈ s
  | [], s => by simp [insS]
  | x :: l, s => by
    have : insS c s (x :: l) = insS c (insF c x s) l := rfl
    rw [this, insS_mem h, ins_mem h, List.mem_cons]
    constructor
    · rintro (g | g | g) <;> simp [g]
    · rintro ((g | g) | g) <;> simp [g]
theorem insS_app (s l m : List α) : insS c s (l ++ m) = insS c (insS c s l) m := by simp [insS, List.foldl_append]
theorem insS_len : ∀ {l s : List α}, (insS c s l).length ≤ s.length + l.length
  | [], s => by simp [insS]
  | x :: l, s => by
    have h : insS c s (x :: l) = insS c (insF c x s) l := rfl
    have h1 := insS_len (l := l) (s := insF c x s)
    have h2 := ins_len (c := c) (b := x) (l := s)
    rw [h, List.length_cons]
    omega
/-- Equal ones beside each other go. -/
def cptF (e : α → α → Bool) : List α → List α
  | [] => []
  | [x] => [x]
  | x :: y :: l => if e y x = true then cptF e (x :: l) else x :: cptF e (y :: l)
termination_by l => l.length
theorem cpt_mem (e : α → α → Bool) (he : ∀ x y, e x y = true ↔ x = y) (y : α) : ∀ l : List α, y ∈ cptF e l ↔ y ∈ l
  | [] => by simp [cptF]
  | [x] => by simp [cptF]
  | x :: z :: l => by
    unfold cptF
    split
    · rename_i h
      rw [cpt_mem e he y (x :: l), (he _ _).1 h]
      simp
    · rw [List.mem_cons, cpt_mem e he y (z :: l), List.mem_cons (a := y) (b := x)]
termination_by l => l.length
theorem cpt_rises (h : Ord3 c) {e : α → α → Bool} (he : ∀ x y, e x y = true ↔ x = y) : ∀ {l : List α}, l.Pairwise (fun x y => c x y ≤ 0) → Rises c (cptF e l)
  | [], _ => by simp [cptF, Rises]
  | [x], _ => by simp [cptF, Rises]
  | x :: z :: l, hl => by
    obtain ⟨h1, h2⟩ := List.pairwise_cons.1 hl
    unfold cptF
    split
    · rename_i hz
      rw [(he _ _).1 hz] at h2
      exact cpt_rises h he h2
    · rename_i hz
      refine List.pairwise_cons.2 ⟨fun y hy => ?_, cpt_rises h he h2⟩
      rw [cpt_mem e he] at hy
      have hxz : c x z < 0 := by
        have := h1 z (by simp)
        have h0 : c x z ≠ 0 := fun h0 => hz ((he _ _).2 ((h.zero _ _).1 h0).symm)
        omega
      rcases List.mem_cons.1 hy with rfl | hy
      · exact hxz
      · have := (List.pairwise_cons.1 h2).1 y hy
        by_cases h0 : c z y = 0
        · rw [← (h.zero _ _).1 h0]; exact hxz
        · exact h.trans _ _ _ hxz (by omega)
termination_by l => l.length
theorem cpt_len (e : α → α → Bool) : ∀ l : List α, (cptF e l).length ≤ l.length
  | [] => by simp [cptF]
  | [x] => by simp [cptF]
  | x :: z :: l => by
    unfold cptF
    split
    · have := cpt_len e (x :: l)
      simp only [List.length_cons] at this ⊢
      omega
    · have := cpt_len e (z :: l)
      simp only [List.length_cons] at this ⊢
      omega
termination_by l => l.length
/-- Sorted, and each once: the same as put in one by one. -/
theorem cpt_sorted (h : Ord3 c) {e : α → α → Bool} (he : ∀ x y, e x y = true ↔ x = y) {l k m : List α} (hp : k.Perm l) (hs : k.Pairwise fun x y => c x y ≤ 0) (hm : l.Perm m) : cptF e k = insS c [] m :=
  rises_ext h (cpt_rises h he hs) (insS_rises h .nil) fun y => by
    rw [cpt_mem e he, insS_mem h, hp.mem_iff, hm.mem_iff]
    simp
theorem sorted_pw [Inhabited α] (h : ∀ x y, c x y < 0 ↔ 0 < c y x) {d : Array α} (hs : Go.Sort.SortedIn (ltc c) 0 d.size d) : d.toList.Pairwise fun x y => c x y ≤ 0 := by
  rw [List.pairwise_iff_getElem]
  intro i j hi hj hij
  have := hs i j (Nat.zero_le _) hij (by simpa using hj)
  unfold ltc at this
  rw [decide_eq_false_iff_not] at this
  rw [getElem!_pos d i (by simpa using hi), getElem!_pos d j (by simpa using hj)] at this
  have h1 := h (d.toList[i]) (d.toList[j])
  have h2 := h (d.toList[j]) (d.toList[i])
  simp only [Array.getElem_toList] at h1 h2 ⊢
  omega
end

/-! ### The document's finder -/
def lvF (ho : Tm) : List (Li × List Fa) → List Bi → List Fa → List (List Fa)
  | [], _, got => [got]
  | p :: ls, env, got => p.2.flatMap fun x => match litF ho p.1 x env with
    | some e => lvF ho ls e (got ++ [x])
    | none => []
def frm (ho : Tm) : List (Li × List Fa) → List Bi → List Fa → List (List Fa) × Nat → List (List Fa) × Nat
  | [], _, got, s => (insF cmpB got s.1, s.2)
  | p :: ls, env, got, s => p.2.foldl (fun s x => if 30000 < s.2 then s else match litF ho p.1 x env with
    | some e => frm ho ls e (got ++ [x]) (s.1, s.2 + 1)
    | none => (s.1, s.2 + 1)) s
theorem frm_ge (ho : Tm) : ∀ (ls : List (Li × List Fa)) (env : List Bi) (got : List Fa) (s : List (List Fa) × Nat), s.2 ≤ (frm ho ls env got s).2
  | [], env, got, s => Nat.le_refl _
  | p :: ls, env, got, s => by
    unfold frm
    generalize p.2 = l
    induction l generalizing s with
    | nil => exact Nat.le_refl _
    | cons x l ih =>
      rw [List.foldl_cons]
      refine Nat.le_trans ?_ (ih _)
      split
      · exact Nat.le_refl _
      · split
        · exact Nat.le_trans (Nat.le_succ s.2) (frm_ge ho ls _ _ (s.1, s.2 + 1))
        · exact Nat.le_succ _
theorem frm_ok (ho : Tm) : ∀ (ls : List (Li × List Fa)) (env : List Bi) (got : List Fa) (s : List (List Fa) × Nat), (frm ho ls env got s).2 ≤ 30000 →
    (frm ho ls env got s).1 = insS cmpB s.1 (lvF ho ls env got) ∧ (lvF ho ls env got).length + s.2 ≤ (frm ho ls env got s).2 + (if ls = [] then 1 else 0)
  | [], env, got, s, h => ⟨rfl, by simp [lvF, frm]; omega⟩
  | p :: ls, env, got, s, h => by
    rw [if_neg (by simp)]
    unfold frm lvF at *
    generalize p.2 = l at *
    induction l generalizing s with
    | nil => exact ⟨rfl, by simp⟩
    | cons x l ih =>
      rw [List.foldl_cons] at h ⊢
      rw [List.flatMap_cons, insS_app]
      have mono : ∀ (l : List Fa) (s : List (List Fa) × Nat), s.2 ≤ (l.foldl (fun s x => if 30000 < s.2 then s else match litF ho p.1 x env with
          | some e => frm ho ls e (got ++ [x]) (s.1, s.2 + 1)
          | none => (s.1, s.2 + 1)) s).2 := by
        intro l s
        have := frm_ge ho ((p.1, l) :: ls) env got s
        unfold frm at this
        exact this
      have hm := mono l (if 30000 < s.2 then s else match litF ho p.1 x env with
          | some e => frm ho ls e (got ++ [x]) (s.1, s.2 + 1)
          | none => (s.1, s.2 + 1))
      have hs : ¬ 30000 < s.2 := fun hs => by rw [if_pos hs] at hm h; omega
      rw [if_neg hs] at hm h ⊢
      obtain ⟨i1, i2⟩ := ih _ h
      rw [i1, List.length_append]
      cases hx : litF ho p.1 x env with
      | none =>
        rw [hx] at i2
        exact ⟨rfl, by simp only [List.length_nil] at i2 ⊢; omega⟩
      | some e =>
        rw [hx] at i2 hm h
        simp only at i2 hm h ⊢
        obtain ⟨j1, j2⟩ := frm_ok ho ls e (got ++ [x]) (s.1, s.2 + 1) (by omega)
        refine ⟨by rw [j1], ?_⟩
        split at j2 <;> simp only at j2 <;> omega
theorem each_lv (ho : Tm) (bo : List Li) (cand : Nat → List Fa) : ∀ (m k : Nat) (env : List Bi) (got : List Fa), got.length = k + m →
    eachF ho bo cand (List.range' k m) env got = lvF ho ((List.range' k m).map fun i => (bo.getD i .zero, cand i)) env (got.take k)
  | 0, k, env, got, h => by
    rw [Nat.add_zero] at h
    show [got] = [got.take k]
    rw [List.take_of_length_le (by omega)]
  | m + 1, k, env, got, h => by
    rw [List.range'_succ, List.map_cons, eachF, lvF]
    simp only
    congr 1
    funext x
    cases litF ho (bo.getD k .zero) x env with
    | none => rfl
    | some e =>
      simp only
      rw [each_lv ho bo cand m (k + 1) e (got.set k x) (by simp; omega)]
      congr 1
      rw [List.take_add_one, List.take_set_of_le (by omega)]
      simp [show k < got.length by omega]
/-- What was in places that are taken up yet makes no difference. -/
theorem each_got {ho : Tm} {bo : List Li} {cand : Nat → List Fa} : ∀ (o : List Nat) (env : List Bi) (got got' : List Fa), got.length = got'.length → (∀ i, i ∉ o → got[i]? = got'[i]?) → eachF ho bo cand o env got = eachF ho bo cand o env got'
  | [], env, got, got', h, hi => by
    rw [show got = got' from List.ext_getElem? fun i => hi i (by simp)]
  | k :: o, env, got, got', h, hi => by
    rw [eachF, eachF]
    congr 1
    funext x
    cases litF ho (bo.getD k .zero) x env with
    | none => rfl
    | some e =>
      refine each_got o e _ _ (by simpa using h) fun i hin => ?_
      by_cases hk : i = k
      · subst hk
        simp [List.getElem?_set, h]
      · rw [List.getElem?_set_ne (Ne.symm hk), List.getElem?_set_ne (Ne.symm hk)]
        exact hi i (by simp [hk, hin])
end Go.Proofs.YthdfpankebjleaaGreat

/-
  Slices that a walk owns; copies of them; lists of facts held against each other, as the program reckons it.
  Conditions: none.
-/
namespace Go.Proofs.YthdfpankebjleaaGreat
open Go Go.Av

/-- A slice that may be written to: nothing, or a row. -/
def Ow (q : Nat) (σ : St) (v : AV) (es : List (List AV)) : Prop := (es = [] ∧ (v = nilS ∨ v = .fsl q [])) ∨ ∃ b cap, v = slv b es.length cap ∧ es.length ≤ cap ∧ σ b = some (.rows q es false cap)
section
variable {q : Nat} {σ σ' : St} {v : AV} {es : List (List AV)}
theorem Ow.lat (h : Ow q σ v es) : LAt q σ v es := by
  rcases h with ⟨rfl, rfl | rfl⟩ | ⟨b, cap, rfl, h1, h2⟩
  · exact .none
  · exact .full
  · exact .inr (.inr ⟨b, cap, rfl, h1, h2⟩)
theorem Ow.keep (h : Ow q σ v es) (hs : ∀ x o, σ x = some o → Own v x → σ' x = some o) : Ow q σ' v es := by
  rcases h with h | ⟨b, cap, rfl, h1, h2⟩
  · exact .inl h
  · exact .inr ⟨b, cap, rfl, h1, hs _ _ h2 (own_slv.2 rfl)⟩
theorem Ow.sub (h : Ow q σ v es) (hs : ∀ x o, σ x = some o → σ' x = some o) : Ow q σ' v es := h.keep fun x o hx _ => hs x o hx
theorem Ow.of_app {eby : Nat} {s : AV} {es ys : List (List AV)} {k : AV → St → Prop} (h : LAt q σ s es) (hy : ys ≠ []) (hb : (es.length + ys.length) * eby ≤ 140737488355328)
    (hk : ∀ v' σ', Ow q σ' v' (es ++ ys) → (∀ x o, σ x = some o → ¬ Own s x → σ' x = some o ∧ ¬ Own v' x) → (∀ x, Own v' x → ∃ c, σ' x = some (.rows q (es ++ ys) false c)) → k v' σ') : aAppTo q eby ys σ s k :=
  h.app_row hy hb fun b cap σ' h1 h2 h3 => hk _ σ' (.inr ⟨b, cap, by rw [List.length_append], by rw [List.length_append]; exact h1, h2⟩) (fun x o hx hn => ⟨(h3 x o hx hn).1, fun ho => (h3 x o hx hn).2 (own_slv.1 ho)⟩) fun x hx => ⟨cap, by rw [own_slv.1 hx]; exact h2⟩
end
section
variable {σ : St}
@[go_sem] theorem bin_fsl {P : Program} {t : TypeId} {q : Nat} {es : List (List AV)} {K : AV → Prop} : aBin P .eql t (.fsl q es) (.v (.slice none 0 0)) K = (isSl P t = true ∧ (es ≠ [] → K (.v (.bool false))) ∧ (es = [] → ∀ b, K (.v (.bool b)))) := _root_.id rfl
theorem cloneC_at {v : AV} (l : List Cn) (hl : l.length ≤ 1000000000) (hv : Rd 3 σ v (cnC l)) : AT Tryz.prog 73 [v] σ fun r σ' => Ow 3 σ' r (cnC l) ∧ Grow σ σ' r := by
  refine AT.of_body Tryz.func73 rfl (by decide) (by kernel_rfl) (by kernel_rfl) (Nat.le_of_ble_eq_true rfl) ?_
  have hsrc : src 3 false σ v = some (cnC l) := by
    rcases hv with rfl | h
    · simp [src]
    · exact lat_src (by decide) h
  have key : ∀ {k : AV → St → Prop}, (∀ r σ', Ow 3 σ' r (cnC l) → Grow σ σ' r → k r σ') → aAppTo 3 32 (cnC l) σ (.fsl 3 []) k := fun {k} hk => by
    by_cases he : cnC l = []
    · rw [he] at hk ⊢
      exact ⟨rfl, fun _ => hk _ _ (.inl ⟨rfl, .inr rfl⟩) fun y p hy => ⟨hy, own_no_fsl⟩, fun h => absurd rfl h⟩
    · exact Ow.of_app .full he (by rw [cnC_len]; simp only [List.length_nil]; omega) fun lv σ1 h1 h2 _ => hk _ _ h1 fun y p hy => h2 y p hy own_no_fsl
  rcases hv with rfl | ⟨rfl, he⟩ | rfl | ⟨b, cap, rfl, _, _⟩
  case' inr.inl =>
    simp only [go_sem]
    exact aRet_as (r := nilS) rfl ⟨.inl ⟨he, .inl rfl⟩, .nil⟩
  all_goals simp only [go_sem]
  case' inl => refine ⟨fun he => ?_, fun he b => ?_⟩
  case' inr.inr.inl => refine ⟨fun he => ?_, fun he b => ?_⟩
  case' inl.refine_2 => refine aIf_bool (fun _ => ?_) (fun _ => ?_)
  case' inr.inr.inl.refine_2 => refine aIf_bool (fun _ => ?_) (fun _ => ?_)
  case' inl.refine_2.refine_1 =>
    simp only [go_sem]
    exact aRet_as (r := nilS) rfl ⟨.inl ⟨he, .inl rfl⟩, .nil⟩
  case' inr.inr.inl.refine_2.refine_1 =>
    simp only [go_sem]
    exact aRet_as (r := nilS) rfl ⟨.inl ⟨he, .inl rfl⟩, .nil⟩
  case' inl.refine_2.refine_2 => simp only [go_sem]
  case' inr.inr.inl.refine_2.refine_2 => simp only [go_sem]
  case' inr.inr.inr => rw [cnC_len] at hsrc
  all_goals
    refine aApp_by (ys := cnC l) hsrc (by decide) (by decide) (by decide) (key fun lv σ1 h1 h2 => ?_)
    simp only [go_sem]
    exact aRet_as (r := lv) rfl ⟨h1, h2⟩
theorem cloneF_at {v : AV} (l : List Fa) (hl : l.length ≤ 1000000000) (h : ∃ b c, v = slv b l.length c ∧ σ b = some (.rows 4 (faC l) false c)) : AT Tryz.prog 37 [v] σ fun r σ' => Ow 4 σ' r (faC l) ∧ Grow σ σ' r ∧ ∀ x, Own r x → σ x = none := by
  obtain ⟨b, c, rfl, hb⟩ := h
  refine AT.of_body Tryz.func37 rfl (by decide) (by kernel_rfl) (by kernel_rfl) (Nat.le_of_ble_eq_true rfl) ?_
  simp only [go_sem]
  have hsrc : src 4 false σ (slv b l.length c) = some (faC l) := by
    simp only [src, hb]
    rw [if_pos ⟨trivial, by simp, by simp [faC]⟩]
    simp only [Nat.zero_div, List.drop_zero]
    rw [List.take_of_length_le (by rw [faC_len]; omega)]
  by_cases he : faC l = []
  · refine aApp_by (ys := faC l) hsrc (by decide) (by decide) (by decide) ?_
    rw [he]
    refine ⟨rfl, fun _ => ?_, fun h => absurd rfl h⟩
    simp only [go_sem]
    exact aRet_as (r := .fsl 4 []) rfl ⟨.inl ⟨rfl, .inr rfl⟩, fun y p hy => ⟨hy, own_no_fsl⟩, fun x hx => absurd hx own_no_fsl⟩
  · refine aApp_by (ys := faC l) hsrc (by decide) (by decide) (by decide) (Ow.of_app .full he (by rw [faC_len]; simp only [List.length_nil]; omega) fun lv σ1 h1 h2 _ => ?_)
    simp only [go_sem]
    have hG : Grow σ σ1 lv := fun y p hy => h2 y p hy own_no_fsl
    exact aRet_as (r := lv) rfl ⟨h1, hG, fun x hx => hG.own hx⟩
theorem cmpFs_at {a b : List Fa} {v w : AV} (ha : Rd 4 σ v (faC a)) (hb : Rd 4 σ w (faC b)) (sa : SmB a) (sb : SmB b) : AT Tryz.prog 128 [v, w, fnv 41] σ fun r σ' => r = int (cmpB a b) ∧ σ' = σ := by
  refine AT.of_body Tryz.func128 rfl (by decide) (by kernel_rfl) (by kernel_rfl) (Nat.le_of_ble_eq_true rfl) ?_
  have s1 := sa.1
  have s2 := sb.1
  simp only [go_sem, r_block, ha.len, faC_len]
  refine ⟨fun m fr σ' => ∃ i : Nat, m = a.length - i ∧ i ≤ a.length ∧ i ≤ b.length ∧ (∀ x o, σ x = some o → σ' x = some o) ∧ cmpL cmpF (a.drop i) (b.drop i) = cmpL cmpF a b ∧ fr 0 = v ∧ fr 1 = w ∧ fr 2 = fnv 41 ∧ fr 11 = v ∧ fr 12 = int a.length ∧ fr 13 = int i, ⟨_, 0, rfl, by omega, by omega, fun _ _ h => h, rfl, rfl, rfl, rfl, rfl, rfl, rfl⟩, ?_⟩
  rintro m fr σ1 ⟨i, rfl, h1, h2, hs, hI, f0, f1, f2, f11, f12, f13⟩
  have c0 : Ctx σ [] σ1 := ⟨hs, fun p hp => (by cases hp), fun p hp => (by cases hp), List.nodup_nil⟩
  have ha1 := ha.keep hs
  have hb1 := hb.keep hs
  simp only [go_sem, f12, f13]
  refine aIf_by (fun hlt => ?_) (fun hlt => ?_)
  · have hia : i < a.length := by omega
    simp only [go_sem, r_block, f11, f13]
    refine ha1.elem (by omega) (by rw [faC_len]; omega) fun p hp => ?_
    simp only [go_sem, r_block]
    refine hp.load (by decide) (by rw [Int.toNat_natCast, faC_get hia]; exact Nat.le_refl 4) ?_
    simp only [go_sem, r_block, faC_get hia]
    refine c0.alloc fun t8 σ2 c1 => ?_
    obtain ⟨σ3, e3, c2⟩ := c1.abs 0 rfl (.cells a[i].cs)
    have hb2 := hb.keep c2.sub
    simp only [go_sem, r_block, c1.g0, e3, f1, hb1.len, faC_len]
    by_cases hib : i < b.length
    · have d := decide_eq_false (show ¬ (b.length : Int) ≤ i by omega)
      simp only [go_sem, r_block, f1, f13, d]
      refine hb2.elem (by omega) (by rw [faC_len]; omega) fun p' hp' => ?_
      simp only [go_sem, r_block]
      refine hp'.load (by decide) (by rw [Int.toNat_natCast, faC_get hib]; exact Nat.le_refl 4) ?_
      simp only [go_sem, r_block, faC_get hib]
      refine c2.alloc fun t9 σ4 c3 => ?_
      obtain ⟨σ5, e5, c4⟩ := c3.abs 0 rfl (.cells b[i].cs)
      simp only [go_sem, r_block, c3.g1, e5, c4.g1, f2]
      refine (cmpF_at a[i] b[i] (sa.2 _ (List.getElem_mem hia)) (sb.2 _ (List.getElem_mem hib))).mono ?_
      rintro _ σ5 ⟨rfl, rfl⟩
      simp only [go_sem, r_block]
      rw [cmpL_step hia hib] at hI
      refine aIf_by (fun h0 => ?_) (fun h0 => ?_)
      · rw [if_pos h0] at hI
        simp only [go_sem, r_block, f0, f1, f2, f11, f12, f13, next64 (show i < 9223372036854775807 by omega)]
        refine ⟨a.length - (i + 1), by omega, i + 1, ?_⟩
        have hs' := c4.sub
        (and_intros <;> first | assumption | rfl | omega)
      · rw [if_neg h0] at hI
        simp only [go_sem, r_block]
        exact aRet_view (r := int _) rfl _ σ (c4.view _) ⟨by unfold cmpB; rw [← hI], rfl⟩
    · have d := decide_eq_true (show (b.length : Int) ≤ i by omega)
      have fin : cmpB a b = 1 := by
        unfold cmpB
        rw [← hI, cmpL_end h1 h2 (by omega), if_neg (by omega), if_pos (by omega)]
      simp only [go_sem, r_block, f1, f13, d]
      exact aRet_view (r := int 1) rfl _ σ (c2.view _) ⟨by rw [fin], rfl⟩
  · have fin : cmpB a b = if a.length < b.length then -1 else 0 := by
      unfold cmpB
      rw [← hI, cmpL_end h1 h2 (by omega), if_neg (show ¬ b.length < a.length by omega)]
    simp only [go_sem, r_block, f0, f1, ha1.len, hb1.len, faC_len]
    refine aIf_by (fun h0 => ?_) (fun h0 => ?_)
    · rw [if_pos (by omega)] at fin
      simp only [go_sem, r_block]
      exact aRet_view (r := int (-1)) rfl _ σ (c0.view _) ⟨by rw [fin], rfl⟩
    · rw [if_neg (by omega)] at fin
      simp only [go_sem, r_block]
      exact aRet_view (r := int 0) rfl _ σ (c0.view _) ⟨by rw [fin], rfl⟩
theorem orderB_at {a b : List Fa} {v w : AV} (ha : Rd 4 σ v (faC a)) (hb : Rd 4 σ w (faC b)) (sa : SmB a) (sb : SmB b) : AT Tryz.prog 97 [v, w] σ fun r σ' => r = int (cmpB a b) ∧ σ' = σ := by
  refine AT.of_body Tryz.func97 rfl (by decide) (by kernel_rfl) (by kernel_rfl) (Nat.le_of_ble_eq_true rfl) ?_
  simp only [go_sem]
  refine (cmpFs_at ha hb sa sb).mono ?_
  rintro _ σ' ⟨rfl, rfl⟩
  simp only [go_sem]
  exact aRet_as (r := int _) rfl ⟨rfl, rfl⟩
theorem eqB_at {a b : List Fa} {v w : AV} (ha : Rd 4 σ v (faC a)) (hb : Rd 4 σ w (faC b)) (sa : SmB a) (sb : SmB b) : AT Tryz.prog 99 [v, w] σ fun r σ' => r = boo (decide (a = b)) ∧ σ' = σ := by
  refine AT.of_body Tryz.func99 rfl (by decide) (by kernel_rfl) (by kernel_rfl) (Nat.le_of_ble_eq_true rfl) ?_
  simp only [go_sem]
  refine (orderB_at ha hb sa sb).mono ?_
  rintro _ σ' ⟨rfl, rfl⟩
  simp only [go_sem]
  exact aRet_as (r := boo _) rfl ⟨by rw [decide_eq_decide.2 (cmpB_ord.zero a b)], rfl⟩
end
end Go.Proofs.YthdfpankebjleaaGreat

/-
  Copies of facts; what a walk owns, seen as less.
  Conditions: none.
-/
namespace Go.Proofs.YthdfpankebjleaaGreat
open Go Go.Av

theorem Rd.keepO {q : Nat} {σ σ' : St} {a : AV} {es : List (List AV)} (h : Rd q σ a es) (hs : ∀ x o, σ x = some o → Own a x → σ' x = some o) : Rd q σ' a es := h.imp _root_.id fun h => h.keep hs
theorem Rd.own_rows {q : Nat} {σ : St} {a : AV} {es : List (List AV)} (h : Rd q σ a es) {x : Nat} (ho : Own a x) : ∃ cap, σ x = some (.rows q es false cap) := by
  rcases h with rfl | h
  · exact absurd ho own_no_sl
  · exact h.own_rows ho
theorem Rd.vw {q : Nat} {σ0 σ : St} {a : AV} {es : List (List AV)} (h : Rd q σ a es) (hf : ∀ x, Own a x → σ0 x = none) : VW σ σ0 a (.sl q es) := by
  rcases h with rfl | h
  · exact .refl _
  · exact h.vw_same hf
/-- A fact whose arguments can be read, and are nobody's that was. -/
def FrX (σ0 σ : St) (f : Fa) (e : List AV) : Prop := ∃ a, e = faX f a ∧ Rd 3 σ a (cnC f.ar) ∧ ∀ x, Own a x → σ0 x = none
theorem FrX.vws {σ0 σ : St} {f : Fa} {e : List AV} (h : FrX σ0 σ f e) : VWs σ σ0 e f.cs := by
  obtain ⟨a, rfl, h1, h2⟩ := h
  exact vws_same (vws_same (vws_same (vws_cons (h1.vw h2) vws_nil)))
/-- A list of such facts. -/
def CP (σ0 σ : St) (lv : AV) (es : List (List AV)) (b : List Fa) : Prop := (∀ x o, σ0 x = some o → σ x = some o) ∧ LAt 4 σ lv es ∧ (∀ x, Own lv x → σ0 x = none) ∧ es.length = b.length ∧ ∀ j (h : j < b.length), FrX σ0 σ b[j] (es.getD j [])
theorem CP.vw {σ0 σ : St} {lv : AV} {es : List (List AV)} {b : List Fa} (h : CP σ0 σ lv es b) : VW σ σ0 lv (.sl 4 (faC b)) := by
  obtain ⟨h1, h2, h3, h4, h5⟩ := h
  refine h2.vw h3 (by rw [faC_len, h4]) fun i hi => ?_
  rw [faC_get (by omega)]
  exact (h5 i (by omega)).vws
theorem CP.view {σ0 σ : St} {lv : AV} {es : List (List AV)} {b : List Fa} (h : CP σ0 σ lv es b) : View σ lv σ0 (.sl 4 (faC b)) := view_of (sv_of fun x o hx => .inl (h.1 x o hx)) h.vw
section
variable {σ : St}
theorem copy_at (l : List Fa) (hl : l.length ≤ 1000000) (hls : ∀ f ∈ l, f.Sm) : AT Tryz.prog 21 [.sl 4 (faC l)] σ fun r σ' => r = .sl 4 (faC l) ∧ σ' = σ := by
  refine AT.of_body Tryz.func21 rfl (by decide) (by kernel_rfl) (by kernel_rfl) (Nat.le_of_ble_eq_true rfl) ?_
  simp only [go_sem, r_block]
  refine ⟨fun m fr σ' => ∃ (i : Nat) (lv : AV) (es : List (List AV)), m = l.length - i ∧ i ≤ l.length ∧ CP σ σ' lv es (l.take i) ∧ fr 0 = .sl 4 (faC l) ∧ fr 3 = lv ∧ fr 4 = int i, ⟨_, 0, nilS, [], rfl, by omega, ⟨fun _ _ h => h, .none, fun x hx => absurd hx own_no_nil, by simp, fun j hj => by simp at hj⟩, rfl, rfl, rfl⟩, ?_⟩
  rintro m fr σ1 ⟨i, lv, es, rfl, hi, ⟨p1, p2, p3, p4, p5⟩, f0, f3, f4⟩
  simp only [go_sem, f0, f4]
  refine aIf_by (fun hlt => ?_) (fun hlt => ?_)
  · have hil : i < l.length := by omega
    have hsm := hls _ (List.getElem_mem hil)
    unfold Fa.Sm at hsm
    simp only [go_sem, r_block, f0, f4, faC_get hil]
    refine ⟨by omega, Ctx.nil.alloc fun t5 σ2 c1 => ?_⟩
    obtain ⟨σ3, e3, c2⟩ := c1.abs 0 rfl (.cells l[i].cs)
    simp only [go_sem, r_block, c1.g0, e3, c2.g0]
    refine aApp_by (ys := cnC l[i].ar) (by simp [src]) (by decide) (by decide) (by decide) (LAt.full.app (by rw [cnC_len]; simp only [List.length_nil]; omega) fun la σ4 h1 g1 => ?_)
    rw [List.nil_append] at h1
    have G1 : Grow σ3 σ4 la := fun y o hy => g1 y o hy own_no_fsl
    have k4 := G1 _ _ c2.g0
    simp only [go_sem, r_block, k4.1, h1.one, h1.cells]
    have esp : splice l[i].cs 3 [la] = faX l[i] la := rfl
    have eal : (faX l[i] la).all AV.one = true := faX_one _ h1.one
    obtain ⟨σ5, e5⟩ : ∃ s, σ4.set t5 (.cells (faX l[i] la)) = s := ⟨_, rfl⟩
    have k5 : σ5 t5 = some (.cells (faX l[i] la)) := by rw [← e5]; exact set_same
    have s5 : ∀ y o, σ1 y = some o → σ5 y = some o := fun y o hy => by
      rw [← e5, set_ne fun e => by
        have := c2.f0
        rw [← e, hy] at this; cases this]
      exact (G1 _ _ (c2.sub _ _ hy)).1
    simp only [go_sem, r_block, esp, e5, k5, eal, f3]
    have p2' := p2.keep (σ' := σ5) fun y o hy _ => s5 y o hy
    refine aApp_by (ys := [faX l[i] la]) (by rfl) (by decide) (by decide) (by decide) (p2'.app (by rw [p4, List.length_take]; simp only [List.length_cons, List.length_nil]; omega) fun lv' σ6 h2 g2 => ?_)
    simp only [go_sem, r_block, f0, f4, next64 (show i < 9223372036854775807 by omega)]
    have nol : ∀ y, σ y ≠ none → ¬ Own lv y := fun y hy ho => hy (p3 y ho)
    have n3 : ∀ {q : Nat} {es' : List (List AV)} {cap : Nat} {y : Nat}, q ≠ 4 → σ1 y = some (.rows q es' false cap) → ¬ Own lv y := fun hq hy ho => by
      obtain ⟨c, hc⟩ := p2.own_rows ho
      rw [hc] at hy
      injection hy with hy
      injection hy with hy
      exact hq hy.symm
    have h5 : LAt 3 σ5 la (cnC l[i].ar) := h1.keep fun y o hy ho => by
      rw [← e5, set_ne fun e => by subst e; exact k4.2 ho]; exact hy
    have hla6 : LAt 3 σ6 la (cnC l[i].ar) := h5.keep fun y o hy ho => (g2 y o hy fun ho' => by
      obtain ⟨c, hc⟩ := p2'.own_rows ho'
      obtain ⟨c', hc'⟩ := h5.own_rows ho
      rw [hc] at hc'; cases hc').1
    refine ⟨l.length - (i + 1), by omega, i + 1, lv', es ++ [faX l[i] la], rfl, by omega, ⟨fun y o hy => (g2 _ _ (s5 _ _ (p1 y o hy)) (nol y (by rw [hy]; simp))).1, h2, fun y ho => ?_, by simp [p4]; omega, fun j hj => ?_⟩, rfl, rfl⟩
    · cases hy : σ y with
      | none => rfl
      | some o => exact absurd ho (g2 _ _ (s5 _ _ (p1 y o hy)) (nol y (by rw [hy]; simp))).2
    · by_cases e : j < i
      · have hj' : j < (l.take i).length := by simp; omega
        obtain ⟨a, a1, a2, a3⟩ := p5 j hj'
        refine ⟨a, ?_, ?_, a3⟩
        · rw [List.getD_eq_getElem?_getD, List.getElem?_append_left (by rw [p4]; exact hj'), ← List.getD_eq_getElem?_getD, a1]
          simp
        · have : (l.take (i + 1))[j] = (l.take i)[j] := by simp
          rw [this]
          refine a2.keepO fun y o hy ho => ?_
          obtain ⟨c, hc⟩ := a2.own_rows ho
          exact (g2 _ _ (s5 _ _ hy) (n3 (by decide) hc)).1
      · have e2 : j = i := by simp at hj; omega
        subst e2
        have e3 : (l.take (j + 1))[j] = l[j] := by simp
        rw [e3]
        refine ⟨la, ?_, .of hla6, fun y ho => ?_⟩
        · have : es.length = j := by rw [p4]; simp; omega
          rw [List.getD_eq_getElem?_getD, List.getElem?_append_right (by omega), this]; simp
        · have := G1.own ho
          exact none_of_sub (fun z o hz => c2.sub _ _ (p1 z o hz)) this
  · simp only [go_sem, r_block, f3]
    rw [List.take_of_length_le (by omega)] at p4 p5
    have hcp : CP σ σ1 lv es l := ⟨p1, p2, p3, p4, p5⟩
    exact aRet_view (r := lv) rfl _ σ hcp.view ⟨rfl, rfl⟩
end
end Go.Proofs.YthdfpankebjleaaGreat

/-
  The library's numbers of bits, and its numbers by chance.
  Conditions: none.
-/
namespace Go.Proofs.YthdfpankebjleaaGreat
open Go Go.Av Go.Sort

abbrev u64 (n : Nat) : AV := .v (.int .u64 (n : Int))
theorem bl_half {x : Nat} (h : 2 ≤ x) : bitsLen x = bitsLen (x / 2) + 1 := by
  unfold bitsLen
  rw [if_neg (by omega), if_neg (by omega), Nat.log2_def, if_pos h]
theorem bl_256 {x : Nat} (h : 256 ≤ x) : bitsLen x = bitsLen (x / 256) + 8 := by
  rw [bl_half (by omega), bl_half (x := x / 2) (by omega), bl_half (x := x / 2 / 2) (by omega), bl_half (x := x / 2 / 2 / 2) (by omega), bl_half (x := x / 2 / 2 / 2 / 2) (by omega), bl_half (x := x / 2 / 2 / 2 / 2 / 2) (by omega), bl_half (x := x / 2 / 2 / 2 / 2 / 2 / 2) (by omega), bl_half (x := x / 2 / 2 / 2 / 2 / 2 / 2 / 2) (by omega)]
  rw [show x / 2 / 2 / 2 / 2 / 2 / 2 / 2 / 2 = x / 256 by omega]
theorem shr_n (x k : Nat) : ((x : Int)).fdiv (2 ^ k) = ((x / 2 ^ k : Nat) : Int) := by
  rw [Int.fdiv_eq_ediv_of_nonneg _ (Int.le_of_lt (Int.pow_pos (by decide)))]
  norm_cast
theorem bl_le {z : Nat} (h : z < 256) : bitsLen z ≤ 8 := by
  have : ∀ z, z < 256 → bitsLen z ≤ 8 := by decide +kernel
  exact this z h
theorem bl_le32 {z : Nat} (h : z < 4294967296) : bitsLen z ≤ 32 := by
  by_cases h1 : 256 ≤ z
  · rw [bl_256 h1]
    by_cases h2 : 256 ≤ z / 256
    · rw [bl_256 h2]
      by_cases h3 : 256 ≤ z / 256 / 256
      · rw [bl_256 h3]
        have := bl_le (z := z / 256 / 256 / 256) (by omega)
        omega
      · have := bl_le (z := z / 256 / 256) (by omega)
        omega
    · have := bl_le (z := z / 256) (by omega)
      omega
  · have := bl_le (z := z) (by omega)
    omega
def len8T : List UInt8 := (List.range 256).map fun x => UInt8.ofNat (bitsLen x)
theorem len8_get {z : Nat} (h : z < 256) (T : List UInt8) (hT : T = len8T) : (T.getD z 0).toNat = bitsLen z := by
  subst hT
  have := bl_le h
  simp only [len8T, List.getD_eq_getElem?_getD, List.getElem?_map, List.getElem?_range h, Option.map_some, Option.getD_some]
  rw [UInt8.toNat_ofNat']
  omega
theorem wrapu (n : Nat) : IntKind.u64.wrap (n : Int) = ((n % 18446744073709551616 : Nat) : Int) := by
  unfold IntKind.wrap
  simp [IntKind.bits, IntKind.signed]
theorem ofI (n : Nat) : (BitVec.ofInt 64 (n : Int)).toNat = n % 18446744073709551616 := by
  rw [BitVec.ofInt_natCast, BitVec.toNat_ofNat]
theorem xs_l (s : UInt64) (k : Nat) (hk : k < 64) : IntKind.u64.wrap ((BitVec.ofInt 64 (s.toNat : Int) ^^^ BitVec.ofInt 64 (IntKind.u64.wrap ((s.toNat : Int) * 2 ^ k))).toNat : Int) = (((s ^^^ s <<< UInt64.ofNat k).toNat : Nat) : Int) := by
  have h0 : ((s.toNat : Int) * 2 ^ k) = ((s.toNat * 2 ^ k : Nat) : Int) := by push_cast; rfl
  have h1 := s.toNat_lt
  have hk' : (UInt64.ofNat k).toNat % 64 = k := by rw [UInt64.toNat_ofNat']; omega
  rw [h0, wrapu, wrapu, BitVec.toNat_xor, ofI, ofI, UInt64.toNat_xor, UInt64.toNat_shiftLeft, hk', Nat.shiftLeft_eq]
  rw [Nat.mod_eq_of_lt (a := s.toNat) (by omega), Nat.mod_mod]
  rw [Nat.mod_eq_of_lt (Nat.xor_lt_two_pow (n := 64) (by omega) (Nat.mod_lt _ (by decide)))]
theorem xs_r (s : UInt64) (k : Nat) (hk : k < 64) : IntKind.u64.wrap ((BitVec.ofInt 64 (s.toNat : Int) ^^^ BitVec.ofInt 64 (((s.toNat : Int)).fdiv (2 ^ k))).toNat : Int) = (((s ^^^ s >>> UInt64.ofNat k).toNat : Nat) : Int) := by
  have h1 := s.toNat_lt
  have hk' : (UInt64.ofNat k).toNat % 64 = k := by rw [UInt64.toNat_ofNat']; omega
  have h2 : s.toNat / 2 ^ k ≤ s.toNat := Nat.div_le_self _ _
  rw [shr_n, wrapu, BitVec.toNat_xor, ofI, ofI, UInt64.toNat_xor, UInt64.toNat_shiftRight, hk', Nat.shiftRight_eq_div_pow]
  rw [Nat.mod_eq_of_lt (a := s.toNat) (by omega), Nat.mod_eq_of_lt (a := s.toNat / 2 ^ k) (by omega)]
  rw [Nat.mod_eq_of_lt (Nat.xor_lt_two_pow (n := 64) (by omega) (by omega))]
section
variable {σ : St}
theorem len64_at {x : Nat} (h : x < 4294967296) : AT Tryz.prog 154 [u64 x] σ fun r σ' => r = int (bitsLen x) ∧ σ' = σ := by
  refine AT.of_body Tryz.func154 rfl (by decide) (by kernel_rfl) (by kernel_rfl) (Nat.le_of_ble_eq_true rfl) ?_
  have d1 := decide_eq_false (show ¬ (4294967296 : Int) ≤ (x : Int) by omega)
  simp only [go_sem, d1]
  refine aIf_meet (fun fr σ' => ∃ y k : Nat, y < 65536 ∧ k ≤ 16 ∧ bitsLen x = bitsLen y + k ∧ fr 0 = u64 y ∧ fr 2 = int k ∧ σ' = σ) (fun g1 => ?_) (fun g1 => ?_) ?_
  · have e1 : ((x : Int)).fdiv (2 ^ min 16 64) = ((x / 65536 : Nat) : Int) := shr_n x 16
    simp only [go_sem, e1]
    refine ⟨x / 65536, 16, by omega, by omega, ?_, rfl, rfl⟩
    rw [bl_256 (by omega), bl_256 (x := x / 256) (by omega), Nat.div_div_eq_div_mul]
  · simp only [go_sem]
    exact ⟨x, 0, by omega, by omega, rfl, rfl, rfl⟩
  rintro fr σ1 ⟨y, k, hy, hk, he, f0, f2, rfl⟩
  rw [he]
  clear d1 h he
  simp only [go_sem, f0, f2]
  refine aIf_meet (fun fr σ' => ∃ z l : Nat, z < 256 ∧ l ≤ 24 ∧ bitsLen y + k = bitsLen z + l ∧ fr 0 = u64 z ∧ fr 2 = int l ∧ σ' = σ1) (fun g1 => ?_) (fun g1 => ?_) ?_
  · have e1 : ((y : Int)).fdiv (2 ^ min 8 64) = ((y / 256 : Nat) : Int) := shr_n y 8
    have e2 : IntKind.i64.wrap ((k : Int) + 8) = ((k + 8 : Nat) : Int) := by rw [wrap64 (by omega)]; omega
    simp only [go_sem, f0, f2, e1, e2]
    refine ⟨y / 256, k + 8, by omega, by omega, ?_, rfl, rfl⟩
    rw [bl_256 (by omega)]; omega
  · simp only [go_sem, f0, f2]
    exact ⟨y, k, by omega, by omega, rfl, rfl, rfl⟩
  rintro fr σ2 ⟨z, l, hz, hl, he, f0, f2, rfl⟩
  rw [he]
  have e3 : IntKind.u8.wrap (z : Int) = (z : Int) := wrap8 (by omega)
  simp only [go_sem, f0, f2, e3]
  refine ⟨Int.lt_of_lt_of_le (show (z : Int) < 256 by omega) (by decide +kernel), _, rfl, _, _, View.refl _ _, ?_, rfl⟩
  refine (congrArg (fun v : Nat => AV.v (Value.int .i64 (IntKind.i64.wrap ((l : Int) + IntKind.i64.wrap (v : Int))))) (len8_get hz _ (by kernel_rfl))).trans ?_
  have := bl_le hz
  show int (IntKind.i64.wrap ((l : Int) + IntKind.i64.wrap ((bitsLen z : Nat) : Int))) = _
  rw [wrap64 (x := ((bitsLen z : Nat) : Int)) (by omega), wrap64 (by omega)]
  show AV.v (Value.int .i64 ((l : Int) + (bitsLen z : Nat))) = AV.v (Value.int .i64 ((bitsLen z + l : Nat) : Int))
  rw [Int.natCast_add, Int.add_comm]
theorem len_at {x : Nat} (h : x < 4294967296) : AT Tryz.prog 121 [u64 x] σ fun r σ' => r = int (bitsLen x) ∧ σ' = σ := by
  refine AT.of_body Tryz.func121 rfl (by decide) (by kernel_rfl) (by kernel_rfl) (Nat.le_of_ble_eq_true rfl) ?_
  simp only [go_sem]
  refine (len64_at h).mono ?_
  rintro _ σ1 ⟨rfl, rfl⟩
  simp only [go_sem]
  exact aRet_as (r := int (bitsLen x)) rfl ⟨rfl, rfl⟩
theorem pow2_at {x : Nat} (h : x < 4294967296) : AT Tryz.prog 169 [int x] σ fun r σ' => r = u64 (1 <<< bitsLen x) ∧ σ' = σ := by
  refine AT.of_body Tryz.func169 rfl (by decide) (by kernel_rfl) (by kernel_rfl) (Nat.le_of_ble_eq_true rfl) ?_
  have e1 : IntKind.u64.wrap (x : Int) = (x : Int) := by
    unfold IntKind.wrap
    simp [IntKind.bits, IntKind.signed]
    omega
  simp only [go_sem, e1]
  refine (len_at h).mono ?_
  rintro _ σ1 ⟨rfl, rfl⟩
  have hb := bl_le32 h
  have e2 : IntKind.u64.wrap (1 * 2 ^ min (bitsLen x) 64) = ((1 <<< bitsLen x : Nat) : Int) := by
    rw [Nat.min_eq_left (by omega), Nat.one_shiftLeft]
    have h1 : 2 ^ bitsLen x ≤ 2 ^ 32 := Nat.pow_le_pow_right (by decide) hb
    have h2 : (1 : Int) * 2 ^ bitsLen x = ((2 ^ bitsLen x : Nat) : Int) := by push_cast; omega
    rw [h2, wrapu]
    generalize 2 ^ bitsLen x = y at h1 ⊢
    omega
  simp only [go_sem, e2]
  exact aRet_as (r := u64 (1 <<< bitsLen x)) rfl ⟨rfl, rfl⟩
theorem next_at {p : Nat} {s : UInt64} (hp : σ p = some (.cells [u64 s.toNat])) : AT Tryz.prog 170 [.v (.pointer (some ⟨p, 0, none⟩))] σ fun r σ' => r = u64 (xorNext s).toNat ∧ σ' = σ.set p (.cells [u64 (xorNext s).toNat]) := by
  refine AT.of_body Tryz.func170 rfl (by decide) (by kernel_rfl) (by kernel_rfl) (Nat.le_of_ble_eq_true rfl) ?_
  have e : xorNext s = ((s ^^^ s <<< 13) ^^^ (s ^^^ s <<< 13) >>> 7) ^^^ ((s ^^^ s <<< 13) ^^^ (s ^^^ s <<< 13) >>> 7) <<< 17 := rfl
  rw [e]
  simp only [go_sem]
  refine aDraw_plan [.rd 0 false, .rd 1 false, .rd 2 true, .rd 3 false, .rd 4 false, .rd 5 true, .rd 6 false, .rd 7 false, .rd 8 false, .ef 9 []] (by kernel_rfl) (by kernel_rfl) (by kernel_rfl) ?_
  have a1 : ∀ s : UInt64, bxor .u64 (s.toNat : Int) (IntKind.u64.wrap ((s.toNat : Int) * 2 ^ min 13 64)) = (((s ^^^ s <<< 13).toNat : Nat) : Int) := fun s => xs_l s 13 (by decide)
  have a2 : ∀ s : UInt64, bxor .u64 (s.toNat : Int) (((s.toNat : Int)).fdiv (2 ^ min 7 64)) = (((s ^^^ s >>> 7).toNat : Nat) : Int) := fun s => xs_r s 7 (by decide)
  have a3 : ∀ s : UInt64, bxor .u64 (s.toNat : Int) (IntKind.u64.wrap ((s.toNat : Int) * 2 ^ min 17 64)) = (((s ^^^ s <<< 17).toNat : Nat) : Int) := fun s => xs_l s 17 (by decide)
  simp only [go_sem, hp, a1]
  refine aDraw_plan [.rd 0 false, .rd 1 false, .rd 2 true, .rd 3 false, .rd 4 false, .rd 5 true, .rd 6 false, .rd 7 false, .rd 8 false, .ef 9 []] (by kernel_rfl) (by kernel_rfl) (by kernel_rfl) ?_
  simp only [go_sem, set_same, a2]
  refine aDraw_plan [.rd 0 false, .rd 1 false, .rd 2 true, .rd 3 false, .rd 4 false, .rd 5 true, .rd 6 false, .rd 7 false, .rd 8 false, .ef 9 []] (by kernel_rfl) (by kernel_rfl) (by kernel_rfl) ?_
  simp only [go_sem, set_same, a3]
  exact aRet_as (r := u64 _) rfl ⟨rfl, rfl⟩
end
end Go.Proofs.YthdfpankebjleaaGreat

/-
  Parts of rows; the sort of a slice that is nil; equal ones beside each other go (plain).
  Conditions: none.
-/
namespace Go.Proofs.YthdfpankebjleaaGreat
open Go Go.Av

section
variable {ag byt : Bool} {sz q eby b n c l h : Nat} {zr ez : List Value} {ik : IntKind} {σ : St} {K : AV → Prop} {k : AV → St → Prop}
theorem sli_row_from {p : Nat} (hp : p = l * q) (h0 : l ≤ n) (hn : n ≤ c) (hlc : l < c) (hk : K (.v (.slice (some ⟨b, p, none⟩) (n - l) (c - l)))) : aSli (some ⟨ag, sz, zr, .sl q eby ez byt⟩) σ (slv b n c) (some (.v (.int ik l))) .none .none K := by
  subst hp
  refine .inl ⟨b, 0, n, c, rfl, l, n, c, rfl, rfl, .inl ⟨rfl, rfl⟩, by omega, by omega, by omega, by omega, ?_⟩
  have e : offAt (c : Int).toNat (l : Int).toNat 0 q = l * q := by
    unfold offAt
    rw [if_neg (by simp; omega)]
    simp
  rw [e]
  simpa using hk
theorem sli_row_upto (h0 : h ≤ n) (hn : n ≤ c) (hk : K (slv b h c)) : aSli (some ⟨ag, sz, zr, .sl q eby ez byt⟩) σ (slv b n c) .none (some (.v (.int ik h))) .none K := by
  refine .inl ⟨b, 0, n, c, rfl, 0, h, c, rfl, rfl, .inl ⟨rfl, rfl⟩, by omega, by omega, by omega, by omega, ?_⟩
  have e : offAt (c : Int).toNat (0 : Int).toNat 0 q = 0 := by
    unfold offAt
    split <;> simp
  rw [e]
  simpa using hk
theorem iadr_row {m cc p : Nat} {j : Int} (hp : p = l * q) (hq : 0 < q) (h0 : 0 ≤ j) (h1 : j < m) (hk : K (.rp b q (l + j.toNat) 0)) : aIadr (some ⟨ag, sz, zr, .sl q eby ez byt⟩) σ (.v (.slice (some ⟨b, p, none⟩) m cc)) (.v (.int ik j)) K := by
  subst hp
  show (l * q) % q = 0 ∧ 0 ≤ j ∧ j < m ∧ K (.rp b q (l * q / q + j.toNat) 0)
  rw [Nat.mul_mod_left, Nat.mul_div_cancel _ hq]
  exact ⟨rfl, h0, h1, hk⟩
theorem clear_row {m cc cap p : Nat} {es : List (List AV)} (hp : p = l * q) (hb : σ b = some (.rows q es false cap)) (hq : 0 < q) (hm : 0 < m) (hl : l + m ≤ es.length) (hz : ez.all Value.oneCell' = true) (hk : k (.tup []) (σ.set b (.rows q (es.take l ++ List.replicate m (ez.map .v) ++ es.drop (l + m)) false cap))) :
    aClear (some ⟨ag, sz, zr, .sl q eby ez byt⟩) σ (.v (.slice (some ⟨b, p, none⟩) m cc)) k := by
  subst hp
  simp only [aClear]
  rw [if_neg (by omega)]
  simp only [hb, Nat.mul_div_cancel _ hq]
  exact ⟨trivial, hq, Nat.mul_mod_left _ _, hl, hz, hk⟩
/-- Of a row less is tracked. -/
theorem view_trim {es : List (List AV)} {cap m : Nat} (r : AV) (hb : σ b = some (.rows q es false cap)) : View σ r (σ.set b (.rows q (es.take m) false cap)) r := fun F w x hs hv => by
  refine ⟨F, ⟨.refl F w, rfl, rfl, rfl, Nat.le_refl _, fun y _ hy => ⟨rfl, ?_, rfl⟩⟩, ⟨fun y o hy => ?_, hs.lt⟩, hv⟩
  · rw [set_ne (fun e => by rw [e, hb] at hy; cases hy)]; exact hy
  · by_cases e : y = b
    · subst e
      rw [set_same] at hy
      injection hy with hy
      subst hy
      obtain ⟨c, e, m', g1, g2, g3, g4, g5, g6, g7⟩ := hs.obj y _ hb
      refine ⟨c, e, m', g1, g2, by simp; omega, fun x hx => g4 x (List.mem_of_mem_take hx), g5, g6, fun i j hi hj => ?_⟩
      have hi' : i < es.length := by simp at hi; omega
      have : (es.take m).getD i [] = es.getD i [] := by
        simp only [List.getD_eq_getElem?_getD]
        rw [List.getElem?_take_of_lt (by simp at hi; omega)]
      rw [this]
      exact g7 i j hi' hj
    · rw [set_ne e] at hy
      exact hs.obj y o hy
end
/-- Of what is the same beside each other the first is kept. -/
def cptA {α : Type} (e : α → α → Bool) : α → List α → List α
  | _, [] => []
  | p, y :: l => if e y p = true then cptA e y l else y :: cptA e y l
def cptB {α : Type} (e : α → α → Bool) : List α → List α
  | [] => []
  | x :: l => x :: cptA e x l
theorem cptA_cons {α : Type} {e : α → α → Bool} {p y : α} {l : List α} : cptA e p (y :: l) = if e y p = true then cptA e y l else y :: cptA e y l := rfl
theorem cptB_start {α : Type} {e : α → α → Bool} {l : List α} (h : 0 < l.length) : cptB e l = l.take 1 ++ cptA e l[0] (l.drop 1) := by
  cases l with
  | nil => simp at h
  | cons x l => rfl
theorem cptB_short {α : Type} {e : α → α → Bool} {l : List α} (h : l.length < 2) : cptB e l = l := by
  match l, h with
  | [], _ => rfl
  | [x], _ => rfl
  | x :: y :: l, h => simp at h; omega
theorem cptA_len {α : Type} (e : α → α → Bool) : ∀ (l : List α) (p : α), (cptA e p l).length ≤ l.length
  | [], _ => by simp [cptA]
  | y :: l, p => by
    unfold cptA
    have := cptA_len e l y
    split <;> simp only [List.length_cons] <;> omega
theorem cptB_len {α : Type} (e : α → α → Bool) (l : List α) : (cptB e l).length ≤ l.length := by
  cases l with
  | nil => simp [cptB]
  | cons x l => have := cptA_len e l x; simp only [cptB, List.length_cons]; omega
theorem cptB_mem {α : Type} {e : α → α → Bool} {l : List α} {x : α} (h : x ∈ cptB e l) : x ∈ l := by
  have hA : ∀ (l : List α) (p : α), x ∈ cptA e p l → x ∈ l := by
    intro l
    induction l with
    | nil => intro p h; cases h
    | cons y l ih =>
      intro p h
      unfold cptA at h
      split at h
      · exact List.mem_cons_of_mem _ (ih _ h)
      · rcases List.mem_cons.1 h with rfl | h
        · exact List.mem_cons_self ..
        · exact List.mem_cons_of_mem _ (ih _ h)
  cases l with
  | nil => cases h
  | cons y l =>
    rcases List.mem_cons.1 h with rfl | h
    · exact List.mem_cons_self ..
    · exact List.mem_cons_of_mem _ (hA _ _ h)
section
variable {σ : St}
theorem insnilL_at (g : Nat) : AT Tryz.prog 156 [nilS, int 0, int 0, fnv g] σ fun _ σ' => σ' = σ := by
  refine AT.of_body Tryz.func156 rfl (by decide) (by kernel_rfl) (by kernel_rfl) (Nat.le_of_ble_eq_true rfl) ?_
  have w : IntKind.i64.wrap (0 + 1) = 1 := by rw [wrap64 (by omega)]; rfl
  simp only [go_sem, r_block, w]
  refine aLoop_few 1 ?_
  simp only [go_sem, r_block]
  exact aRet_as (r := .tup []) rfl rfl
theorem pdqnilL_at (g : Nat) (lim : Nat) : AT Tryz.prog 127 [nilS, int 0, int 0, int lim, fnv g] σ fun _ σ' => σ' = σ := by
  refine AT.of_body Tryz.func127 rfl (by decide) (by kernel_rfl) (by kernel_rfl) (Nat.le_of_ble_eq_true rfl) ?_
  have w : IntKind.i64.wrap (0 - 0) = 0 := by rw [wrap64 (by omega)]; rfl
  simp only [go_sem, r_block]
  refine aLoop_few 1 ?_
  simp only [go_sem, r_block, w]
  refine (insnilL_at g).mono ?_
  rintro _ _ rfl
  simp only [go_sem, r_block]
  exact aRet_as (r := .tup []) rfl rfl
theorem sortnilL_at (g : Nat) : AT Tryz.prog 96 [nilS, fnv g] σ fun _ σ' => σ' = σ := by
  refine AT.of_body Tryz.func96 rfl (by decide) (by kernel_rfl) (by kernel_rfl) (Nat.le_of_ble_eq_true rfl) ?_
  have w1 : IntKind.u64.wrap (0 : Int) = (0 : Int) := by simp [IntKind.wrap, IntKind.signed, IntKind.bits]
  simp only [go_sem, w1]
  refine (len_at (x := 0) (by omega)).mono ?_
  rintro _ σ1 ⟨rfl, rfl⟩
  simp only [go_sem]
  refine (pdqnilL_at g _).mono ?_
  rintro _ _ rfl
  simp only [go_sem]
  exact aRet_as (r := .tup []) rfl rfl
end
end Go.Proofs.YthdfpankebjleaaGreat

/-
  What is left when neighbours that are the same are one.
  Conditions: none.
-/
namespace Go.Proofs.YthdfpankebjleaaGreat
open Go Go.Av

theorem cptB_map {α γ : Type} {e : α → α → Bool} {f : α → γ} {e' : γ → γ → Bool} (he : ∀ x y, e x y = true ↔ f x = f y) (he' : ∀ x y, e' x y = true ↔ x = y) (l : List α) : (cptB e l).map f = cptF e' (l.map f) := by
  have key : ∀ (l : List α) (p : α), cptF e' (f p :: l.map f) = f p :: (cptA e p l).map f := by
    intro l
    induction l with
    | nil => intro p; simp [cptF, cptA]
    | cons y l ih =>
      intro p
      rw [List.map_cons, cptF, cptA_cons]
      by_cases h : f y = f p
      · rw [if_pos ((he' _ _).2 h), if_pos ((he _ _).2 h), ← h, ih y]
      · rw [if_neg fun h' => h ((he' _ _).1 h'), if_neg fun h' => h ((he _ _).1 h'), ih y]
        rfl
  cases l with
  | nil => simp [cptB, cptF]
  | cons x l => rw [List.map_cons, key]; rfl
end Go.Proofs.YthdfpankebjleaaGreat

/-
  Equal ones beside each other go: the library's CompactFunc, of facts.
  Conditions: none.
-/
namespace Go.Proofs.YthdfpankebjleaaGreat.F
open Go Go.Av Go.Sort

section
variable {α : Type} {en : α → List AV} (hl : ∀ x, (en x).length = 4) (ho : ∀ x, (en x).all AV.one = true) {e : α → α → Bool} {g : Nat} {β : St} (hC : ∀ σ', (∀ x o, β x = some o → σ' x = some o) → ∀ x y, AT Tryz.prog g [.agg (en x), .agg (en y)] σ' fun r σ'' => r = boo (e x y) ∧ σ'' = σ')
variable {b cap : Nat} (hn : β b = none)
include hl ho hC hn
theorem compact_at {σ : St} {l : List α} (hb : σ b = some (.rows 4 (l.map en) false cap)) (hs : ∀ x o, β x = some o → σ x = some o) (hcap : l.length ≤ cap) (hsz : l.length ≤ 1000000000) : AT Tryz.prog 75 [slv b l.length cap, fnv g] σ fun r σ' => r = slv b (cptB e l).length cap ∧ σ' = σ.set b (.rows 4 ((cptB e l).map en) false cap) := by
  refine AT.of_body Tryz.func75 rfl (by decide) (by kernel_rfl) (by kernel_rfl) (Nat.le_of_ble_eq_true rfl) ?_
  have e4 : ∀ x, (en x).take 4 = en x := fun x => List.take_of_length_le (by rw [hl]; omega)
  have e5 : ∀ x y, en x ++ List.drop 4 (en y) = en x := fun x y => by rw [List.drop_eq_nil_of_le (by rw [hl]; omega), List.append_nil]
  have eg : ∀ j (hj : j < l.length), (l.map en).getD j [] = en l[j] := fun j hj => by simp [List.getD_eq_getElem?_getD, hj]
  have same : ∀ {fr : Fr} {m : Nat}, m = l.length → cptB e l = l → aResult Tryz.prog fr σ (Tryz.f75).results.toList = some (slv b l.length cap) → aRet Tryz.prog (fun r σ' => r = slv b (cptB e l).length cap ∧ σ' = σ.set b (.rows 4 ((cptB e l).map en) false cap)) (Tryz.f75).results.toList fr σ := fun _ he hr =>
    aRet_as hr ⟨by rw [he], by rw [he]; exact (set_id hb).symm⟩
  simp only [go_sem]
  refine aIf_by (fun h2 => ?_) (fun h2 => ?_)
  · simp only [go_sem]
    exact same rfl (cptB_short (by omega)) rfl
  · simp only [go_sem, r_block]
    refine ⟨fun m fr σ' => ∃ (k : Nat) (hk : 0 < k) (hkn : k ≤ l.length), m = l.length - k ∧ σ' = σ ∧ cptB e l = l.take k ++ cptA e (l[k - 1]'(by omega)) (l.drop k) ∧ fr 0 = slv b l.length cap ∧ fr 1 = fnv g ∧ fr 5 = int k, ⟨_, 1, by omega, by omega, rfl, rfl, cptB_start (by omega), rfl, rfl, rfl⟩, ?_⟩
    rintro m fr σ ⟨k, hk, hkn, rfl, rfl, hI, f0, f1, f5⟩
    simp only [go_sem, f0, f5]
    refine aIf_by (fun hlt => ?_) (fun hlt => ?_)
    · have hkl : k < l.length := by omega
      have w1 : IntKind.i64.wrap ((k : Int) - 1) = ((k - 1 : Nat) : Int) := by rw [wrap64 (by omega)]; omega
      have q1 := eg k hkl
      have q2 := eg (k - 1) (by omega)
      have ed : l.drop k = l[k] :: l.drop (k + 1) := List.drop_eq_getElem_cons hkl
      rw [ed] at hI
      simp only [go_sem, r_block]
      refine aDraw_plan [.rd 0 false, .rd 1 false, .rd 2 false, .rd 3 false, .rd 4 true, .rd 5 false, .rd 6 false, .rd 7 false, .rd 8 false, .rd 9 true, .ef 10 []] (by kernel_rfl) (by kernel_rfl) (by kernel_rfl) ?_
      simp only [go_sem, r_block, f0, f1, f5, w1, hb, q1, q2, e4, hl, List.length_map]
      refine ⟨by omega, by omega, by omega, by omega, (hC _ hs _ _).mono ?_⟩
      rintro _ σ ⟨rfl, rfl⟩
      simp only [go_sem, r_block]
      refine aIf_bool (fun h0 => ?_) (fun h0 => ?_)
      · have hI : cptB e l = l.take k ++ cptA e l[k] (l.drop (k + 1)) := by rw [hI, cptA_cons, if_pos h0]
        simp only [go_sem, r_block, f0, f5]
        refine sli_row_from (p := k * 4) (by omega) (by omega) hcap (by omega) ?_
        simp only [go_sem, r_block]
        refine ⟨fun m fr σ' => ∃ (w j : Nat) (es : List (List AV)) (hj : k < j) (hjn : j ≤ l.length) (res : List α), m = l.length - j ∧ w < j ∧ es.length = l.length ∧ (∀ i, i < l.length → (es.getD i []).length = 4) ∧ σ' = σ.set b (.rows 4 es false cap) ∧ res.length = w ∧ es.take w = res.map en ∧ es.drop (j - 1) = (l.drop (j - 1)).map en ∧ cptB e l = res ++ cptA e (l[j - 1]'(by omega)) (l.drop j) ∧ fr 0 = slv b l.length cap ∧ fr 1 = fnv g ∧ fr 5 = int w ∧ fr 6 = .v (.slice (some ⟨b, k * 4, none⟩) (l.length - k) (cap - k)) ∧ fr 7 = int (j - k : Nat),
          ⟨_, k, k + 1, l.map en, by omega, by omega, l.take k, rfl, by omega, by simp, (fun i hi => by rw [eg i hi, hl]), (set_id hb).symm, by simp; omega, by simp [List.map_take], by simp [List.map_drop], hI, f0, f1, f5, rfl, by rw [show k + 1 - k = 1 by omega]; rfl⟩, ?_⟩
        clear hI f0 f1 f5 h0 hlt w1 q1 q2 ed fr
        rintro m fr σ' ⟨w, j, es, hj, hjn, res, rfl, hwj, hes, he1, rfl, hres, ht, hd, hI, f0, f1, f5, f6, f7⟩
        have hge : ∀ i, j - 1 ≤ i → ∀ hi : i < l.length, es.getD i [] = en l[i] := fun i h1 h2 => by
          have := congrArg (fun x => x.getD (i - (j - 1)) []) hd
          simp only [List.getD_eq_getElem?_getD, List.getElem?_drop, List.getElem?_map] at this
          rw [show j - 1 + (i - (j - 1)) = i by omega] at this
          simpa [List.getD_eq_getElem?_getD, h2] using this
        simp only [go_sem, f6, f7]
        refine aIf_by (fun hlt => ?_) (fun hlt => ?_)
        · have hjl : j < l.length := by omega
          have w2 : IntKind.i64.wrap (((j - k : Nat) : Int) - 1) = ((j - k - 1 : Nat) : Int) := by rw [wrap64 (by omega)]; omega
          have p1 := hge j (by omega) hjl
          have p2 := hge (j - 1) (by omega) (by omega)
          have ed : l.drop j = l[j] :: l.drop (j + 1) := List.drop_eq_getElem_cons hjl
          have a1 : k + (j - k) = j := by omega
          have a2 : k + (j - k - 1) = j - 1 := by omega
          rw [ed] at hI
          simp only [go_sem, r_block]
          refine aDraw_plan [.rd 0 false, .rd 1 false, .rd 2 false, .rd 3 false, .rd 4 true, .rd 5 false, .rd 6 false, .rd 7 false, .rd 8 false, .rd 9 true, .ef 10 [], .rd 11 false] (by kernel_rfl) (by kernel_rfl) (by kernel_rfl) ?_
          simp only [go_sem, r_block, f1, f6, f7, w2]
          refine iadr_row (l := k) (by omega) (by decide) (by omega) (by omega) ?_
          simp only [go_sem, r_block, a1, set_same, p1, e4, hl, hes, f6, f7, w2]
          refine ⟨by omega, iadr_row (l := k) (by omega) (by decide) (by omega) (by omega) ?_⟩
          simp only [go_sem, r_block, a2, set_same, p2, e4, hl, hes, f1]
          refine ⟨by omega, (hC _ (sub_set hn hs) _ _).mono ?_⟩
          rintro _ σ1 ⟨rfl, rfl⟩
          simp only [go_sem, r_block]
          refine aIf_bool (fun h0 => ?_) (fun h0 => ?_)
          · have hI : cptB e l = res ++ cptA e l[j] (l.drop (j + 1)) := by rw [hI, cptA_cons, if_pos h0]
            have n1 : IntKind.i64.wrap (((j - k : Nat) : Int) + 1) = ((j + 1 - k : Nat) : Int) := by rw [wrap64 (by omega)]; omega
            simp only [go_sem, r_block, f0, f1, f5, f6, f7, n1]
            refine ⟨l.length - (j + 1), by omega, w, j + 1, es, by omega, by omega, res, rfl, by omega, hes, he1, rfl, hres, ht, ?_, hI, rfl, rfl⟩
            rw [Nat.add_sub_cancel, show j = j - 1 + 1 by omega, ← List.drop_drop, hd, ← List.map_drop, List.drop_drop]
          · have hI : cptB e l = (res ++ [l[j]]) ++ cptA e l[j] (l.drop (j + 1)) := by rw [hI, cptA_cons, if_neg (by rw [h0]; decide), List.append_assoc]; rfl
            have n1 : IntKind.i64.wrap (((j - k : Nat) : Int) + 1) = ((j + 1 - k : Nat) : Int) := by rw [wrap64 (by omega)]; omega
            have dz : List.drop 4 (es.getD w []) = [] := List.drop_eq_nil_of_le (by rw [he1 w (by omega)]; omega)
            simp only [go_sem, r_block, f0, f1, f5, f6, f7, n1]
            refine iadr_row (l := k) (by omega) (by decide) (by omega) (by omega) ?_
            simp only [go_sem, r_block, a1, set_same, p1, e4, hl, hes, f0, f1, f5, f6, f7, n1, dz, List.append_nil, ho, set_set, next64 (show w < 9223372036854775807 by omega)]
            refine ⟨by omega, by omega, by omega, l.length - (j + 1), by omega, w + 1, j + 1, es.set w (en l[j]), by omega, by omega, res ++ [l[j]], rfl, by omega, by simp; omega, fun i hi => ?_, rfl, by simp; omega, ?_, ?_, hI, rfl, rfl⟩
            · simp only [List.getD_eq_getElem?_getD, List.getElem?_set]
              split
              · rw [if_pos (by omega)]; exact hl _
              · have := he1 i hi
                rwa [List.getD_eq_getElem?_getD] at this
            · rw [List.take_add_one, List.take_set_of_le (by omega), ht]
              simp [show w < es.length by omega]
            · rw [Nat.add_sub_cancel, List.drop_set_of_lt (by omega), show j = j - 1 + 1 by omega, ← List.drop_drop, hd, ← List.map_drop, List.drop_drop]
        · rw [List.drop_of_length_le (by omega)] at hI
          have hI : cptB e l = res := by rw [hI]; simp [cptA]
          simp only [go_sem, r_block, f0, f5]
          refine sli_row_from (p := w * 4) (by omega) (by omega) hcap (by omega) ?_
          simp only [go_sem, r_block]
          refine clear_row (l := w) (by omega) set_same (by decide) (by omega) (by omega) (by decide) ?_
          simp only [go_sem, r_block, set_set, f0, f5]
          refine sli_row_upto (by omega) hcap ?_
          simp only [go_sem, r_block]
          have hw : (cptB e l).length = w := by rw [hI]; exact hres
          refine aRet_view (r := slv b w cap) rfl _ _ (view_trim (m := w) _ set_same) ⟨by rw [hw], ?_⟩
          rw [set_set, List.append_assoc, List.take_append_of_le_length (by simp; omega), List.take_take, Nat.min_self, ht, hI]
      · have hI : cptB e l = l.take (k + 1) ++ cptA e l[k] (l.drop (k + 1)) := by
          have e1 : l.take (k + 1) = l.take k ++ [l[k]] := by rw [List.take_add_one, List.getElem?_eq_getElem hkl]; rfl
          rw [hI, e1, cptA_cons, if_neg (by rw [h0]; decide), List.append_assoc]; rfl
        simp only [go_sem, r_block, f0, f1, f5, next64 (show k < 9223372036854775807 by omega)]
        exact ⟨l.length - (k + 1), by omega, k + 1, by omega, by omega, rfl, hI, rfl⟩
    · simp only [go_sem, r_block, f0]
      refine same rfl ?_ rfl
      rw [hI, List.drop_of_length_le (by omega), List.take_of_length_le (by omega)]
      simp [cptA]
end
end Go.Proofs.YthdfpankebjleaaGreat.F

/-
  The library's sort, of facts: by insertion.
  Conditions: none.
-/
namespace Go.Proofs.YthdfpankebjleaaGreat.F
open Go Go.Av Go.Sort

section
variable {α : Type} [Inhabited α] {en : α → List AV} (hl : ∀ x, (en x).length = 4) (ho : ∀ x, (en x).all AV.one = true) {cf : α → α → Int} {g : Nat} {β : St} (hC : ∀ σ', (∀ x o, β x = some o → σ' x = some o) → ∀ x y, AT Tryz.prog g [.agg (en x), .agg (en y)] σ' fun r σ'' => r = int (cf x y) ∧ σ'' = σ')
variable {σ : St} {b cap : Nat} {d : Array α} (hb : σ b = some (.rows 4 (rw' en d) false cap)) (hn : β b = none) (hs : ∀ x o, β x = some o → σ x = some o) {n : Nat} (hd : d.size = n) (hsz : n ≤ 1000000000)
include hl ho hC hb hn hs hd hsz
theorem ins_at {a e : Nat} (he : e ≤ n) (ha : a ≤ n) : AT Tryz.prog 145 [slv b n cap, int a, int e, fnv g] σ fun _ σ' => σ' = σ.set b (.rows 4 (rw' en (insertionSort (ltc cf) d a e)) false cap) := by
  refine AT.of_body Tryz.func145 rfl (by decide) (by kernel_rfl) (by kernel_rfl) (Nat.le_of_ble_eq_true rfl) ?_
  have sub : ∀ d', ∀ x o, β x = some o → (σ.set b (.rows 4 (rw' en d') false cap)) x = some o := fun d' x o hx => by
    have : x ≠ b := fun e => by subst e; rw [hn] at hx; cases hx
    rw [set_ne this]; exact hs x o hx
  have e4 : ∀ x, (en x).take 4 = en x := fun x => List.take_of_length_le (by rw [hl]; omega)
  have e5 : ∀ x y, en x ++ List.drop 4 (en y) = en x := fun x y => by rw [List.drop_eq_nil_of_le (by rw [hl]; omega), List.append_nil]
  simp only [go_sem, r_block, next64 (show a < 9223372036854775807 by omega)]
  refine ⟨fun m fr σ' => ∃ (i : Nat) (d' : Array α), m = e - i ∧ a < i ∧ d'.size = n ∧ insOuter (ltc cf) a e i d' = insertionSort (ltc cf) d a e ∧ σ' = σ.set b (.rows 4 (rw' en d') false cap) ∧ fr 0 = slv b n cap ∧ fr 1 = int a ∧ fr 2 = int e ∧ fr 3 = fnv g ∧ fr 8 = int i, ⟨_, a + 1, d, rfl, by omega, hd, rfl, (set_id hb).symm, rfl, rfl, rfl, rfl, rfl⟩, ?_⟩
  rintro m fr σ' ⟨i, d', rfl, hi, hd', hI, rfl, f0, f1, f2, f3, f8⟩
  simp only [go_sem, f2, f8]
  refine aIf_by (fun hlt => ?_) (fun hlt => ?_)
  · simp only [go_sem, r_block, f8]
    unfold insOuter at hI
    rw [if_pos (by omega)] at hI
    refine ⟨fun m fr σ' => ∃ (j : Nat) (d'' : Array α), m = j + 1 ∧ j ≤ i ∧ d''.size = n ∧ insInner (ltc cf) a j d'' = insInner (ltc cf) a i d' ∧ σ' = σ.set b (.rows 4 (rw' en d'') false cap) ∧ fr 0 = slv b n cap ∧ fr 1 = int a ∧ fr 2 = int e ∧ fr 3 = fnv g ∧ fr 8 = int i ∧ fr 9 = int j, ⟨_, i, d', rfl, by omega, hd', rfl, rfl, f0, f1, f2, f3, f8, rfl⟩, ?_⟩
    clear f0 f1 f2 f3 f8 fr
    rintro m fr σ' ⟨j, dd, rfl, hj, hdd, hJ, rfl, f0, f1, f2, f3, f8, f9⟩
    have out : insInner (ltc cf) a j dd = dd → insOuter (ltc cf) a e (i + 1) dd = insertionSort (ltc cf) d a e := fun h => by rw [← hI, ← hJ, h]
    simp only [go_sem]
    refine aDraw_plan [.rd 0 false, .rd 1 false, .rd 2 false, .rd 3 false, .rd 4 false, .rd 5 false, .rd 6 false, .rd 7 false, .rd 8 true, .rd 9 false, .rd 10 false, .rd 11 false, .rd 12 false, .rd 13 true, .ef 14 [], .rd 15 false, .rd 16 false] (by kernel_rfl) (by kernel_rfl) (by kernel_rfl) ?_
    by_cases g1 : (a : Int) < j
    · obtain ⟨k, rfl⟩ : ∃ k, j = k + 1 := ⟨j - 1, by omega⟩
      have ek : IntKind.i64.wrap (((k + 1 : Nat) : Int) - 1) = (k : Int) := by rw [wrap64 (by omega)]; omega
      have q1 := rw_get (en := en) (d := dd) (j := k + 1) (by omega)
      have q2 := rw_get (en := en) (d := dd) (j := k) (by omega)
      simp only [go_sem, f0, f1, f3, f9, decide_eq_true g1, ek, set_same, q1, q2, e4]
      refine ⟨by omega, by omega, by omega, by omega, (hC _ (sub dd) _ _).mono ?_⟩
      rintro _ σ1 ⟨rfl, rfl⟩
      have hu : insInner (ltc cf) a (k + 1) dd = if ltc cf dd[k + 1]! dd[k]! = true then insInner (ltc cf) a k (swp dd (k + 1) k) else dd := by
        rw [insInner]
        simp only [gt_iff_lt, show a < k + 1 by omega, decide_true, Bool.true_and]
      simp only [go_sem]
      refine aIf_by (fun g2 => ?_) (fun g2 => ?_)
      · rw [if_pos (by unfold ltc; exact decide_eq_true g2)] at hu
        simp only [go_sem, r_block]
        refine aDraw_plan [.rd 0 false, .rd 1 false, .rd 2 false, .rd 3 false, .rd 4 false, .rd 5 false, .rd 6 false, .rd 7 false, .rd 8 false, .rd 9 true, .rd 10 false, .rd 11 false, .rd 12 false, .rd 13 true, .rd 14 false, .ef 15 [], .rd 16 false, .ef 17 []] (by kernel_rfl) (by kernel_rfl) (by kernel_rfl) ?_
        have q3 := rw_get (en := en) (d := dd.setIfInBounds (k + 1) dd[k]!) (j := k) (by rw [Array.size_setIfInBounds]; omega)
        simp only [go_sem, f0, f1, f3, f9, ek, set_same, q1, q2, e4, e5, hl, ho, rw_set, q3, Array.size_setIfInBounds]
        refine ⟨by omega, by omega, by omega, by omega, by omega, by omega, by omega, by omega, k + 1, by omega, k, swp dd (k + 1) k, rfl, by omega, by rw [swp_size]; exact hdd, by rw [← hu, hJ], rfl, f2, f8, rfl⟩
      · rw [if_neg (by unfold ltc; rw [decide_eq_false g2]; decide)] at hu
        have out := out hu
        simp only [go_sem, f0, f1, f2, f3, f8, next64 (show i < 9223372036854775807 by omega)]
        exact ⟨e - (i + 1), by omega, i + 1, dd, rfl, by omega, hdd, out, rfl, rfl⟩
    · have out := out (by
        cases j with
        | zero => rfl
        | succ k => rw [insInner]; simp only [gt_iff_lt, show ¬ a < k + 1 by omega, decide_false, Bool.false_and, Bool.false_eq_true, if_false])
      simp only [go_sem, f0, f1, f2, f3, f8, f9, decide_eq_false g1, next64 (show i < 9223372036854775807 by omega)]
      exact ⟨e - (i + 1), by omega, i + 1, dd, rfl, by omega, hdd, out, rfl, rfl⟩
  · simp only [go_sem, r_block]
    unfold insOuter at hI
    rw [if_neg (by omega)] at hI
    rw [hI]
    exact aRet_as (r := .tup []) rfl rfl
end
end Go.Proofs.YthdfpankebjleaaGreat.F

/-
  The library's sort, of facts: heaps, and reversing.
  Conditions: none.
-/
namespace Go.Proofs.YthdfpankebjleaaGreat.F
open Go Go.Av Go.Sort

section
variable {α : Type} [Inhabited α] {en : α → List AV} (hl : ∀ x, (en x).length = 4) (ho : ∀ x, (en x).all AV.one = true) {cf : α → α → Int} {g : Nat} {β : St} (hC : ∀ σ', (∀ x o, β x = some o → σ' x = some o) → ∀ x y, AT Tryz.prog g [.agg (en x), .agg (en y)] σ' fun r σ'' => r = int (cf x y) ∧ σ'' = σ')
variable {σ : St} {b cap : Nat} {d : Array α} (hb : σ b = some (.rows 4 (rw' en d) false cap)) (hn : β b = none) (hs : ∀ x o, β x = some o → σ x = some o) {n : Nat} (hd : d.size = n) (hsz : n ≤ 1000000000)
include hl ho hC hb hn hs hd hsz
theorem sift_at {lo hi f : Nat} (hf : f + hi ≤ n) (hlo : lo ≤ n) : AT Tryz.prog 168 [slv b n cap, int lo, int hi, int f, fnv g] σ fun _ σ' => σ' = σ.set b (.rows 4 (rw' en (siftDown (ltc cf) hi f lo d)) false cap) := by
  refine AT.of_body Tryz.func168 rfl (by decide) (by kernel_rfl) (by kernel_rfl) (Nat.le_of_ble_eq_true rfl) ?_
  simp only [go_sem, r_block]
  refine ⟨fun m fr σ' => ∃ (r : Nat) (d' : Array α), m = n - r ∧ r ≤ n ∧ d'.size = n ∧ siftDown (ltc cf) hi f r d' = siftDown (ltc cf) hi f lo d ∧ σ' = σ.set b (.rows 4 (rw' en d') false cap) ∧ fr 0 = slv b n cap ∧ fr 2 = int hi ∧ fr 3 = int f ∧ fr 4 = fnv g ∧ fr 10 = int r, ⟨_, lo, d, rfl, hlo, hd, rfl, (set_id hb).symm, rfl, rfl, rfl, rfl, rfl⟩, ?_⟩
  rintro m fr σ' ⟨r, dd, rfl, hr, hdd, hI, rfl, f0, f2, f3, f4, f10⟩
  have w1 : IntKind.i64.wrap (IntKind.i64.wrap (2 * (r : Int)) + 1) = ((2 * r + 1 : Nat) : Int) := by rw [wrap64 (x := 2 * (r : Int)) (by omega), wrap64 (by omega)]; omega
  simp only [go_sem, r_block, f0, f2, f3, f4, f10, w1]
  refine aIf_by (fun hge => ?_) (fun hge => ?_)
  · simp only [go_sem, r_block]
    rw [← hI, sift_stop (by omega)]
    exact aRet_as (r := .tup []) rfl rfl
  · have hlt : 2 * r + 1 < hi := by omega
    rw [sift_step hlt] at hI
    have hch := chd_lt (lt := ltc cf) (f := f) (d := dd) hlt
    simp only [go_sem]
    refine aDraw_plan [.rd 0 false, .rd 1 false, .rd 2 false, .rd 3 false, .rd 4 false, .rd 5 false, .rd 6 false, .rd 7 false, .rd 8 false, .rd 9 false, .rd 10 false, .rd 11 true, .rd 12 false, .rd 13 false, .rd 14 false, .rd 15 false, .rd 16 false, .rd 17 false, .rd 18 true, .ef 19 [], .rd 20 false, .rd 21 false] (by kernel_rfl) (by kernel_rfl) (by kernel_rfl) ?_
    apply meet_by (fun fr σ' => σ' = σ.set b (.rows 4 (rw' en dd) false cap) ∧ fr 0 = slv b n cap ∧ fr 2 = int hi ∧ fr 3 = int f ∧ fr 4 = fnv g ∧ fr 10 = int r ∧ fr 11 = int (chd (ltc cf) hi f r dd))
    case h1 =>
      intro key
      have w2 : IntKind.i64.wrap (((2 * r + 1 : Nat) : Int) + 1) = ((2 * r + 2 : Nat) : Int) := by rw [wrap64 (by omega)]; omega
      by_cases g1 : ((2 * r + 2 : Nat) : Int) < hi
      · have w3 : IntKind.i64.wrap ((f : Int) + ((2 * r + 1 : Nat) : Int)) = ((f + (2 * r + 1) : Nat) : Int) := by rw [wrap64 (by omega)]; omega
        have w4 : IntKind.i64.wrap (((f + (2 * r + 1) : Nat) : Int) + 1) = ((f + (2 * r + 2) : Nat) : Int) := by rw [wrap64 (by omega)]; omega
        have q1 := rw_get (en := en) (d := dd) (j := f + (2 * r + 1)) (by omega)
        have q2 := rw_get (en := en) (d := dd) (j := f + (2 * r + 2)) (by omega)
        simp only [go_sem, f0, f2, f3, f4, f10, w2, w3, w4, decide_eq_true g1, set_same, q1, q2, en_take hl]
        refine ⟨by omega, by omega, by omega, by omega, (hC _ (sub_set hn hs) _ _).mono ?_⟩
        rintro _ σ1 ⟨rfl, rfl⟩
        simp only [go_sem]
        refine aIf_by (fun g2 => ?_) (fun g2 => ?_)
        · simp only [go_sem, w2]
          refine key _ _ ⟨rfl, f0, f2, f3, f4, f10, ?_⟩
          unfold chd
          rw [if_pos ⟨by omega, decide_eq_true g2⟩]
          rfl
        · simp only [go_sem, w2]
          refine key _ _ ⟨rfl, f0, f2, f3, f4, f10, ?_⟩
          unfold chd
          rw [if_neg (fun h => g2 (of_decide_eq_true h.2))]
          rfl
      · simp only [go_sem, f0, f2, f3, f4, f10, w2, decide_eq_false g1]
        refine key _ _ ⟨rfl, f0, f2, f3, f4, f10, ?_⟩
        unfold chd
        rw [if_neg (fun h => g1 (by omega))]
        rfl
    case h2 =>
      clear f0 f2 f3 f4 f10 fr
      generalize chd (ltc cf) hi f r dd = c at *
      rintro fr σ1 ⟨rfl, f0, f2, f3, f4, f10, f11⟩
      have w5 : IntKind.i64.wrap ((f : Int) + (r : Int)) = ((f + r : Nat) : Int) := by rw [wrap64 (by omega)]; omega
      have w6 : IntKind.i64.wrap ((f : Int) + (c : Int)) = ((f + c : Nat) : Int) := by rw [wrap64 (by omega)]; omega
      have q1 := rw_get (en := en) (d := dd) (j := f + r) (by omega)
      have q2 := rw_get (en := en) (d := dd) (j := f + c) (by omega)
      refine aDraw_plan [.rd 0 false, .rd 1 false, .rd 2 false, .rd 3 false, .rd 4 false, .rd 5 false, .rd 6 true, .rd 7 false, .rd 8 false, .rd 9 false, .rd 10 false, .rd 11 false, .rd 12 true, .ef 13 [], .rd 14 false, .rd 15 false] (by kernel_rfl) (by kernel_rfl) (by kernel_rfl) ?_
      simp only [go_sem, f0, f2, f3, f4, f10, f11, w5, w6, set_same, q1, q2, en_take hl]
      refine ⟨by omega, by omega, by omega, by omega, (hC _ (sub_set hn hs) _ _).mono ?_⟩
      rintro _ σ1 ⟨rfl, rfl⟩
      simp only [go_sem]
      refine aIf_by (fun g2 => ?_) (fun g2 => ?_)
      · rw [if_pos (by unfold ltc; exact decide_eq_true g2)] at hI
        simp only [go_sem]
        refine aDraw_plan [.rd 0 false, .rd 1 false, .rd 2 false, .rd 3 false, .rd 4 false, .rd 5 false, .rd 6 false, .rd 7 false, .rd 8 false, .rd 9 false, .rd 10 false, .rd 11 false, .rd 12 false, .rd 13 true, .rd 14 false, .rd 15 false, .rd 16 false, .rd 17 false, .rd 18 false, .rd 19 true, .rd 20 false, .ef 21 [], .rd 22 false, .ef 23 []] (by kernel_rfl) (by kernel_rfl) (by kernel_rfl) ?_
        have q3 := rw_get (en := en) (d := dd.setIfInBounds (f + r) dd[f + c]!) (j := f + c) (by rw [Array.size_setIfInBounds]; omega)
        simp only [go_sem, f0, f2, f3, f4, f10, f11, w5, w6, set_same, q1, q2, en_take hl, en_app hl, hl, ho, rw_set, q3, Array.size_setIfInBounds]
        refine ⟨by omega, by omega, by omega, by omega, by omega, by omega, by omega, by omega, n - c, by omega, c, swp dd (f + r) (f + c), rfl, by omega, by rw [swp_size]; exact hdd, hI, rfl, rfl⟩
      · rw [if_neg (by unfold ltc; rw [decide_eq_false g2]; decide)] at hI
        simp only [go_sem]
        rw [← hI]
        exact aRet_as (r := .tup []) rfl rfl
omit hl ho hC hb hn hs hd hsz in
theorem sift_size {lt : α → α → Bool} {hi f : Nat} : ∀ (m r : Nat) (d : Array α), hi - r ≤ m → (siftDown lt hi f r d).size = d.size
  | 0, r, d, h => by rw [sift_stop (by omega)]
  | m + 1, r, d, h => by
    by_cases h1 : 2 * r + 1 < hi
    · have hc := chd_lt (lt := lt) (f := f) (d := d) h1
      rw [sift_step h1]
      split
      · rw [sift_size m _ _ (by omega), swp_size]
      · rfl
    · rw [sift_stop h1]
theorem heap_at {a e : Nat} (he : e ≤ n) (ha : a < e) : AT Tryz.prog 146 [slv b n cap, int a, int e, fnv g] σ fun _ σ' => σ' = σ.set b (.rows 4 (rw' en (heapSort (ltc cf) d a e)) false cap) := by
  refine AT.of_body Tryz.func146 rfl (by decide) (by kernel_rfl) (by kernel_rfl) (Nat.le_of_ble_eq_true rfl) ?_
  have w1 : IntKind.i64.wrap ((e : Int) - a) = ((e - a : Nat) : Int) := by rw [wrap64 (by omega)]; omega
  have w2 : IntKind.i64.wrap ((IntKind.i64.wrap (((e - a : Nat) : Int) - 1)).tdiv 2) = ((((e - a - 1) / 2 + 1 : Nat) : Int) - 1) := by
    rw [wrap64 (x := ((e - a : Nat) : Int) - 1) (by omega), Int.tdiv_eq_ediv_of_nonneg (by omega), wrap64 (by omega)]; omega
  simp only [go_sem, r_block, w1, w2]
  refine ⟨fun m fr σ' => ∃ (k : Nat) (d' : Array α), m = k + 1 ∧ k ≤ n ∧ d'.size = n ∧ heapBuild (ltc cf) (e - a) a k d' = heapBuild (ltc cf) (e - a) a ((e - a - 1) / 2 + 1) d ∧ σ' = σ.set b (.rows 4 (rw' en d') false cap) ∧ fr 0 = slv b n cap ∧ fr 3 = fnv g ∧ fr 8 = int a ∧ fr 9 = int 0 ∧ fr 10 = int (e - a : Nat) ∧ fr 11 = int ((k : Int) - 1), ⟨_, _, d, rfl, by omega, hd, rfl, (set_id hb).symm, rfl, rfl, rfl, rfl, rfl, rfl⟩, ?_⟩
  rintro m fr σ' ⟨k, dd, rfl, hk, hdd, hI, rfl, f0, f3, f8, f9, f10, f11⟩
  simp only [go_sem, f11]
  refine aIf_by (fun hge => ?_) (fun hge => ?_)
  · obtain ⟨j, rfl⟩ : ∃ j, k = j + 1 := ⟨k - 1, by omega⟩
    have ej : ((j + 1 : Nat) : Int) - 1 = (j : Int) := by omega
    simp only [go_sem, r_block, f0, f3, f8, f10, f11, ej]
    refine (sift_at hl ho hC (σ := σ.set b (.rows 4 (rw' en dd) false cap)) (d := dd) set_same hn (sub_set hn hs) hdd hsz (by omega) (by omega)).mono ?_
    rintro _ σ1 rfl
    have w3 : IntKind.i64.wrap ((j : Int) - 1) = (j : Int) - 1 := wrap64 (by omega)
    simp only [go_sem, f0, f3, f8, f9, f10, f11, ej, w3, hdd]
    exact ⟨j + 1, by omega, j, siftDown (ltc cf) (e - a) a j dd, rfl, by omega, by rw [sift_size _ _ _ (Nat.le_refl _)]; exact hdd, hI, rfl, rfl⟩
  · have hk0 : k = 0 := by omega
    subst hk0
    have w4 : IntKind.i64.wrap (((e - a : Nat) : Int) - 1) = ((e - a : Nat) : Int) - 1 := wrap64 (by omega)
    simp only [go_sem, r_block, f0, f3, f8, f9, f10, f11, w4]
    have hI : dd = heapBuild (ltc cf) (e - a) a ((e - a - 1) / 2 + 1) d := hI
    have hfin : heapSort (ltc cf) d a e = heapPop (ltc cf) a (e - a) dd := by rw [hI]; rfl
    refine ⟨fun m fr σ' => ∃ (k : Nat) (d' : Array α), m = k + 1 ∧ k ≤ e - a ∧ d'.size = n ∧ heapPop (ltc cf) a k d' = heapPop (ltc cf) a (e - a) dd ∧ σ' = σ.set b (.rows 4 (rw' en d') false cap) ∧ fr 0 = slv b n cap ∧ fr 3 = fnv g ∧ fr 8 = int a ∧ fr 9 = int 0 ∧ fr 12 = int ((k : Int) - 1), ⟨_, _, dd, rfl, by omega, hdd, rfl, rfl, f0, f3, f8, f9, rfl⟩, ?_⟩
    clear f0 f3 f8 f9 f10 f11 fr hI
    rintro m fr σ' ⟨k, de, rfl, hk, hde, hI, rfl, f0, f3, f8, f9, f12⟩
    simp only [go_sem, f12]
    refine aIf_by (fun hge => ?_) (fun hge => ?_)
    · obtain ⟨j, rfl⟩ : ∃ j, k = j + 1 := ⟨k - 1, by omega⟩
      have ej : ((j + 1 : Nat) : Int) - 1 = (j : Int) := by omega
      have w5 : IntKind.i64.wrap ((a : Int) + (j : Int)) = ((a + j : Nat) : Int) := by rw [wrap64 (by omega)]; omega
      have q1 := rw_get (en := en) (d := de) (j := a) (by omega)
      have q2 := rw_get (en := en) (d := de) (j := a + j) (by omega)
      have q3 := rw_get (en := en) (d := de.setIfInBounds a de[a + j]!) (j := a + j) (by rw [Array.size_setIfInBounds]; omega)
      simp only [go_sem, r_block, f0, f3, f8, f9, f12, ej]
      refine aDraw_plan [.rd 0 false, .rd 1 false, .rd 2 false, .rd 3 false, .rd 4 false, .rd 5 false, .rd 6 false, .rd 7 false, .rd 8 false, .rd 9 false, .rd 10 false, .rd 11 true, .rd 12 false, .rd 13 false, .rd 14 false, .rd 15 true, .rd 16 false, .ef 17 [], .rd 18 false, .ef 19 []] (by kernel_rfl) (by kernel_rfl) (by kernel_rfl) ?_
      simp only [go_sem, f0, f3, f8, f9, f12, ej, w5, set_same, q1, q2, en_take hl, en_app hl, hl, ho, rw_set, q3, Array.size_setIfInBounds]
      refine ⟨by omega, by omega, by omega, by omega, by omega, by omega, by omega, by omega, ?_⟩
      have hsw : (swp de a (a + j)).size = n := by rw [swp_size]; exact hde
      refine (sift_at hl ho hC (lo := 0) (hi := j) (f := a) (σ := σ.set b (.rows 4 (rw' en (swp de a (a + j))) false cap)) (d := swp de a (a + j)) set_same hn (sub_set hn hs) hsw hsz (by omega) (by omega)).mono ?_
      rintro _ σ1 rfl
      have w3 : IntKind.i64.wrap ((j : Int) - 1) = (j : Int) - 1 := wrap64 (by omega)
      simp only [go_sem, f0, f3, f8, f9, f12, ej, w3]
      exact ⟨j + 1, by omega, j, siftDown (ltc cf) j a 0 (swp de a (a + j)), rfl, by omega, by rw [sift_size _ _ _ (Nat.le_refl _)]; exact hsw, hI, rfl, rfl⟩
    · have hk0 : k = 0 := by omega
      subst hk0
      simp only [go_sem]
      rw [hfin, ← hI]
      exact aRet_as (r := .tup []) rfl rfl
omit hl ho hC hb hn hs hd hsz in
theorem rev_eq {i j : Nat} {d : Array α} : reverseLoop i j d = if i < j then reverseLoop (i + 1) (j - 1) (swp d i j) else d := by rw [reverseLoop]
omit hC hn hs in
theorem rev_at {a e : Nat} (he : e ≤ n) (ha : a < e) : AT Tryz.prog 149 [slv b n cap, int a, int e, fnv g] σ fun _ σ' => σ' = σ.set b (.rows 4 (rw' en (reverseRange d a e)) false cap) := by
  refine AT.of_body Tryz.func149 rfl (by decide) (by kernel_rfl) (by kernel_rfl) (Nat.le_of_ble_eq_true rfl) ?_
  have w1 : IntKind.i64.wrap ((e : Int) - 1) = ((e - 1 : Nat) : Int) := by rw [wrap64 (by omega)]; omega
  simp only [go_sem, r_block, w1]
  refine ⟨fun m fr σ' => ∃ (i j : Nat) (d' : Array α), m = j - i ∧ j < n ∧ i ≤ n ∧ d'.size = n ∧ reverseLoop i j d' = reverseRange d a e ∧ σ' = σ.set b (.rows 4 (rw' en d') false cap) ∧ fr 0 = slv b n cap ∧ fr 8 = int i ∧ fr 9 = int j, ⟨_, a, e - 1, d, rfl, by omega, by omega, hd, rfl, (set_id hb).symm, rfl, rfl, rfl⟩, ?_⟩
  rintro m fr σ' ⟨i, j, dd, rfl, hj, hi, hdd, hI, rfl, f0, f8, f9⟩
  rw [rev_eq] at hI
  simp only [go_sem, f8, f9]
  refine aIf_by (fun hlt => ?_) (fun hlt => ?_)
  · have w2 : IntKind.i64.wrap ((j : Int) - 1) = ((j - 1 : Nat) : Int) := by rw [wrap64 (by omega)]; omega
    have q1 := rw_get (en := en) (d := dd) (j := i) (by omega)
    have q2 := rw_get (en := en) (d := dd) (j := j) (by omega)
    have q3 := rw_get (en := en) (d := dd.setIfInBounds i dd[j]!) (j := j) (by rw [Array.size_setIfInBounds]; omega)
    rw [if_pos (by omega)] at hI
    simp only [go_sem, r_block]
    refine aDraw_plan [.rd 0 false, .rd 1 false, .rd 2 false, .rd 3 false, .rd 4 false, .rd 5 false, .rd 6 false, .rd 7 true, .rd 8 false, .rd 9 false, .rd 10 false, .rd 11 true, .rd 12 false, .ef 13 [], .rd 14 false, .ef 15 []] (by kernel_rfl) (by kernel_rfl) (by kernel_rfl) ?_
    simp only [go_sem, f0, f8, f9, set_same, q1, q2, en_take hl, en_app hl, hl, ho, rw_set, q3, Array.size_setIfInBounds, w2, next64 (show i < 9223372036854775807 by omega)]
    refine ⟨by omega, by omega, by omega, by omega, by omega, by omega, by omega, by omega, j - 1 - (i + 1), by omega, i + 1, j - 1, swp dd i j, rfl, by omega, by omega, by rw [swp_size]; exact hdd, hI, rfl, rfl, rfl⟩
  · rw [if_neg (by omega)] at hI
    simp only [go_sem]
    rw [← hI]
    exact aRet_as (r := .tup []) rfl rfl
end
end Go.Proofs.YthdfpankebjleaaGreat.F

/-
  The library's sort, of facts: the choice of a pivot.
  Conditions: none.
-/
namespace Go.Proofs.YthdfpankebjleaaGreat.F
open Go Go.Av Go.Sort

def hintN : Hint → Int
  | .unknown => 0
  | .increasing => 1
  | .decreasing => 2
section
variable {α : Type} [Inhabited α] {en : α → List AV} (hl : ∀ x, (en x).length = 4) (ho : ∀ x, (en x).all AV.one = true) {cf : α → α → Int} {g : Nat} {β : St} (hC : ∀ σ', (∀ x o, β x = some o → σ' x = some o) → ∀ x y, AT Tryz.prog g [.agg (en x), .agg (en y)] σ' fun r σ'' => r = int (cf x y) ∧ σ'' = σ')
variable {σ : St} {b cap : Nat} {d : Array α} (hb : σ b = some (.rows 4 (rw' en d) false cap)) (hn : β b = none) (hs : ∀ x o, β x = some o → σ x = some o) {n : Nat} (hd : d.size = n) (hsz : n ≤ 1000000000)
variable {p : Nat} (hpb : p ≠ b) (hpn : β p = none)
theorem order2_lt {lt : α → α → Bool} {a c m k : Nat} (ha : a < m) (hc : c < m) : (order2 lt d a c k).1 < m ∧ (order2 lt d a c k).2.1 < m ∧ (order2 lt d a c k).2.2 ≤ k + 1 := by
  unfold order2
  split
  · exact ⟨hc, ha, Nat.le_refl _⟩
  · exact ⟨ha, hc, Nat.le_succ _⟩
theorem median_lt {lt : α → α → Bool} {a c e m k : Nat} (ha : a < m) (hc : c < m) (he : e < m) : (median lt d a c e k).1 < m ∧ (median lt d a c e k).2 ≤ k + 3 := by
  unfold median
  have h1 := order2_lt (d := d) (lt := lt) (k := k) ha hc
  have h2 := order2_lt (d := d) (lt := lt) (k := (order2 lt d a c k).2.2) h1.2.1 he
  have h3 := order2_lt (d := d) (lt := lt) (k := (order2 lt d (order2 lt d a c k).2.1 e (order2 lt d a c k).2.2).2.2) h1.1 h2.1
  exact ⟨h3.2.1, by show (order2 lt d _ _ _).2.2 ≤ _; omega⟩
include hl ho hC hb hn hs hd hsz hpb hpn
theorem order2_at {a c k : Nat} (ha : a < n) (hc : c < n) (hk : k ≤ 1000) (hp : σ p = some (.cells [int k])) : AT Tryz.prog 179 [slv b n cap, int a, int c, ptr p, fnv g] σ fun r σ' => r = .tup [int (order2 (ltc cf) d a c k).1, int (order2 (ltc cf) d a c k).2.1] ∧ σ' = σ.set p (.cells [int (order2 (ltc cf) d a c k).2.2]) := by
  refine AT.of_body Tryz.func179 rfl (by decide) (by kernel_rfl) (by kernel_rfl) (Nat.le_of_ble_eq_true rfl) ?_
  have q1 := rw_get (en := en) (d := d) (j := a) (by omega)
  have q2 := rw_get (en := en) (d := d) (j := c) (by omega)
  simp only [go_sem]
  refine aDraw_plan [.rd 0 false, .rd 1 false, .rd 2 false, .rd 3 false, .rd 4 true, .rd 5 false, .rd 6 false, .rd 7 false, .rd 8 true, .ef 9 [], .rd 10 false] (by kernel_rfl) (by kernel_rfl) (by kernel_rfl) ?_
  simp only [go_sem, hb, q1, q2, en_take hl]
  refine ⟨by omega, by omega, by omega, by omega, (hC _ hs _ _).mono ?_⟩
  rintro _ σ1 ⟨rfl, rfl⟩
  simp only [go_sem]
  refine aIf_by (fun g2 => ?_) (fun g2 => ?_)
  · have e : order2 (ltc cf) d a c k = (c, a, k + 1) := by unfold order2; exact if_pos (decide_eq_true g2)
    simp only [go_sem, hp, next64 (show k < 9223372036854775807 by omega)]
    refine aRet_as (r := .tup [int c, int a]) rfl ?_
    rw [e]
    exact ⟨rfl, rfl⟩
  · have e : order2 (ltc cf) d a c k = (a, c, k) := by unfold order2; exact if_neg (fun h => g2 (of_decide_eq_true h))
    simp only [go_sem]
    refine aRet_as (r := .tup [int a, int c]) rfl ?_
    rw [e]
    exact ⟨rfl, (set_id hp).symm⟩
theorem median_at {a c e k : Nat} (ha : a < n) (hc : c < n) (he : e < n) (hk : k ≤ 990) (hp : σ p = some (.cells [int k])) : AT Tryz.prog 172 [slv b n cap, int a, int c, int e, ptr p, fnv g] σ fun r σ' => r = int (median (ltc cf) d a c e k).1 ∧ σ' = σ.set p (.cells [int (median (ltc cf) d a c e k).2]) := by
  refine AT.of_body Tryz.func172 rfl (by decide) (by kernel_rfl) (by kernel_rfl) (Nat.le_of_ble_eq_true rfl) ?_
  have hm : median (ltc cf) d a c e k = ((order2 (ltc cf) d (order2 (ltc cf) d a c k).1 (order2 (ltc cf) d (order2 (ltc cf) d a c k).2.1 e (order2 (ltc cf) d a c k).2.2).1 (order2 (ltc cf) d (order2 (ltc cf) d a c k).2.1 e (order2 (ltc cf) d a c k).2.2).2.2).2.1, (order2 (ltc cf) d (order2 (ltc cf) d a c k).1 (order2 (ltc cf) d (order2 (ltc cf) d a c k).2.1 e (order2 (ltc cf) d a c k).2.2).1 (order2 (ltc cf) d (order2 (ltc cf) d a c k).2.1 e (order2 (ltc cf) d a c k).2.2).2.2).2.2) := rfl
  rw [hm]
  have l1 := order2_lt (d := d) (lt := ltc cf) (k := k) ha hc
  generalize hx1 : order2 (ltc cf) d a c k = x1 at l1 ⊢
  have l2 := order2_lt (d := d) (lt := ltc cf) (k := x1.2.2) l1.2.1 he
  generalize hx2 : order2 (ltc cf) d x1.2.1 e x1.2.2 = x2 at l2 ⊢
  have l3 := order2_lt (d := d) (lt := ltc cf) (k := x2.2.2) l1.1 l2.1
  generalize hx3 : order2 (ltc cf) d x1.1 x2.1 x2.2.2 = x3 at l3 ⊢
  simp only [go_sem]
  refine (order2_at hl ho hC hb hn hs hd hsz hpb hpn ha hc (by omega) hp).mono ?_
  rintro _ _ ⟨rfl, rfl⟩
  rw [hx1]
  simp only [go_sem]
  refine (order2_at hl ho hC (σ := σ.set p (.cells [int x1.2.2])) (by rw [set_ne (Ne.symm hpb)]; exact hb) hn (sub_set hpn hs) hd hsz hpb hpn l1.2.1 he (by omega) set_same).mono ?_
  rintro _ _ ⟨rfl, rfl⟩
  rw [hx2]
  simp only [go_sem]
  refine (order2_at hl ho hC (σ := σ.set p (.cells [int x2.2.2])) (by rw [set_ne (Ne.symm hpb)]; exact hb) hn (sub_set hpn hs) hd hsz hpb hpn l1.1 l2.1 (by omega) set_same).mono ?_
  rintro _ _ ⟨rfl, rfl⟩
  rw [hx3]
  simp only [go_sem]
  exact aRet_as (r := int x3.2.1) rfl ⟨rfl, rfl⟩
theorem medadj_at {a k : Nat} (ha : 1 ≤ a) (ha2 : a + 1 < n) (hk : k ≤ 990) (hp : σ p = some (.cells [int k])) : AT Tryz.prog 171 [slv b n cap, int a, ptr p, fnv g] σ fun r σ' => r = int (medianAdjacent (ltc cf) d a k).1 ∧ σ' = σ.set p (.cells [int (medianAdjacent (ltc cf) d a k).2]) := by
  refine AT.of_body Tryz.func171 rfl (by decide) (by kernel_rfl) (by kernel_rfl) (Nat.le_of_ble_eq_true rfl) ?_
  have w1 : IntKind.i64.wrap ((a : Int) - 1) = ((a - 1 : Nat) : Int) := by rw [wrap64 (by omega)]; omega
  simp only [go_sem, w1, next64 (show a < 9223372036854775807 by omega)]
  refine (median_at hl ho hC hb hn hs hd hsz hpb hpn (by omega) (by omega) ha2 hk hp).mono ?_
  rintro _ _ ⟨rfl, rfl⟩
  simp only [go_sem]
  exact aRet_as (r := int (medianAdjacent (ltc cf) d a k).1) rfl ⟨rfl, rfl⟩
omit hpb hpn in
theorem pivot_at {a e : Nat} (he : e ≤ n) (ha : a + 12 < e) : AT Tryz.prog 148 [slv b n cap, int a, int e, fnv g] σ fun r σ' => r = .tup [int (choosePivot (ltc cf) d a e).1, int (hintN (choosePivot (ltc cf) d a e).2)] ∧ σ' = σ := by
  refine AT.of_body Tryz.func148 rfl (by decide) (by kernel_rfl) (by kernel_rfl) (Nat.le_of_ble_eq_true rfl) ?_
  obtain ⟨q, hq⟩ : ∃ q, q = (e - a) / 4 := ⟨_, rfl⟩
  have w1 : IntKind.i64.wrap ((e : Int) - a) = ((e - a : Nat) : Int) := by rw [wrap64 (by omega)]; omega
  have w2 : IntKind.i64.wrap (((e - a : Nat) : Int).tdiv 4) = (q : Int) := by rw [Int.tdiv_eq_ediv_of_nonneg (by omega), wrap64 (by omega)]; omega
  have w3 : IntKind.i64.wrap ((a : Int) + IntKind.i64.wrap ((q : Int) * 1)) = ((a + q : Nat) : Int) := by rw [wrap64 (x := (q : Int) * 1) (by omega), wrap64 (by omega)]; omega
  have w4 : IntKind.i64.wrap ((a : Int) + IntKind.i64.wrap ((q : Int) * 2)) = ((a + q * 2 : Nat) : Int) := by rw [wrap64 (x := (q : Int) * 2) (by omega), wrap64 (by omega)]; omega
  have w5 : IntKind.i64.wrap ((a : Int) + IntKind.i64.wrap ((q : Int) * 3)) = ((a + q * 3 : Nat) : Int) := by rw [wrap64 (x := (q : Int) * 3) (by omega), wrap64 (by omega)]; omega
  simp only [go_sem, w1]
  refine aNew_intro fun p hp hpx => ?_
  have hpb : p ≠ b := fun h => hpx b _ hb h.symm
  have hpn : β p = none := by
    cases h : β p with
    | none => rfl
    | some o => exact absurd rfl (hpx p o (hs p o h))
  have hb1 : ∀ ob, (σ.set p ob) b = some (.rows 4 (rw' en d) false cap) := fun ob => by rw [set_ne (Ne.symm hpb)]; exact hb
  have cp : ∀ r : Nat × Nat, r = (if 8 ≤ e - a then (if 50 ≤ e - a then median (ltc cf) d (medianAdjacent (ltc cf) d (a + q) 0).1 (medianAdjacent (ltc cf) d (a + q * 2) (medianAdjacent (ltc cf) d (a + q) 0).2).1 (medianAdjacent (ltc cf) d (a + q * 3) (medianAdjacent (ltc cf) d (a + q * 2) (medianAdjacent (ltc cf) d (a + q) 0).2).2).1 (medianAdjacent (ltc cf) d (a + q * 3) (medianAdjacent (ltc cf) d (a + q * 2) (medianAdjacent (ltc cf) d (a + q) 0).2).2).2 else median (ltc cf) d (a + q) (a + q * 2) (a + q * 3) 0) else (a + q * 2, 0)) → choosePivot (ltc cf) d a e = (r.1, if r.2 = 0 then .increasing else if r.2 = 12 then .decreasing else .unknown) := fun r h => by
    subst h
    subst hq
    unfold choosePivot
    simp only [Nat.mul_one]
  rw [if_pos (show 8 ≤ e - a by omega)] at cp
  have d8 := decide_eq_true (show (8 : Int) ≤ ((e - a : Nat) : Int) by omega)
  have hm1 : ∀ {a c k : Nat}, 1 ≤ a → a + 1 < n → (medianAdjacent (ltc cf) d a k).1 < n ∧ (medianAdjacent (ltc cf) d a k).2 ≤ k + 3 := fun h1 h2 => median_lt (by omega) (by omega) h2
  simp only [go_sem, w2, w3, w4, w5, w1, d8]
  apply meet_by (fun fr σ' => ∃ r : Nat × Nat, fr 13 = int r.1 ∧ fr 55 = int r.2 ∧ σ' = σ.set p (.cells [int r.2]) ∧ choosePivot (ltc cf) d a e = (r.1, if r.2 = 0 then .increasing else if r.2 = 12 then .decreasing else .unknown))
  case h1 =>
    intro key
    refine aIf_by (fun g1 => ?_) (fun g1 => ?_)
    · rw [if_pos (show 50 ≤ e - a by omega)] at cp
      have l1 := hm1 (a := a + q) (c := 0) (k := 0) (by omega) (by omega)
      simp only [go_sem]
      refine (medadj_at hl ho hC (σ := σ.set p (.cells [int 0])) (hb1 _) hn (sub_set hpn hs) hd hsz hpb hpn (a := a + q) (k := 0) (by omega) (by omega) (by omega) set_same).mono ?_
      rintro _ _ ⟨rfl, rfl⟩
      generalize medianAdjacent (ltc cf) d (a + q) 0 = x1 at cp l1 ⊢
      have l2 := hm1 (a := a + q * 2) (c := 0) (k := x1.2) (by omega) (by omega)
      simp only [go_sem]
      refine (medadj_at hl ho hC (σ := σ.set p (.cells [int x1.2])) (hb1 _) hn (sub_set hpn hs) hd hsz hpb hpn (a := a + q * 2) (k := x1.2) (by omega) (by omega) (by omega) set_same).mono ?_
      rintro _ _ ⟨rfl, rfl⟩
      generalize medianAdjacent (ltc cf) d (a + q * 2) x1.2 = x2 at cp l2 ⊢
      have l3 := hm1 (a := a + q * 3) (c := 0) (k := x2.2) (by omega) (by omega)
      simp only [go_sem]
      refine (medadj_at hl ho hC (σ := σ.set p (.cells [int x2.2])) (hb1 _) hn (sub_set hpn hs) hd hsz hpb hpn (a := a + q * 3) (k := x2.2) (by omega) (by omega) (by omega) set_same).mono ?_
      rintro _ _ ⟨rfl, rfl⟩
      generalize medianAdjacent (ltc cf) d (a + q * 3) x2.2 = x3 at cp l3 ⊢
      simp only [go_sem]
      refine (median_at hl ho hC (σ := σ.set p (.cells [int x3.2])) (hb1 _) hn (sub_set hpn hs) hd hsz hpb hpn (a := x1.1) (c := x2.1) (e := x3.1) (k := x3.2) (by omega) (by omega) (by omega) (by omega) set_same).mono ?_
      rintro _ _ ⟨rfl, rfl⟩
      generalize median (ltc cf) d x1.1 x2.1 x3.1 x3.2 = r at cp ⊢
      simp only [go_sem, set_same]
      refine key _ _ ?_
      exact ⟨r, rfl, rfl, rfl, cp r rfl⟩
    · rw [if_neg (show ¬ 50 ≤ e - a by omega)] at cp
      simp only [go_sem]
      refine (median_at hl ho hC (σ := σ.set p (.cells [int 0])) (hb1 _) hn (sub_set hpn hs) hd hsz hpb hpn (a := a + q) (c := a + q * 2) (e := a + q * 3) (k := 0) (by omega) (by omega) (by omega) (by omega) set_same).mono ?_
      rintro _ _ ⟨rfl, rfl⟩
      generalize median (ltc cf) d (a + q) (a + q * 2) (a + q * 3) 0 = r at cp ⊢
      simp only [go_sem, set_same]
      refine key _ _ ?_
      exact ⟨r, rfl, rfl, rfl, cp r rfl⟩
  case h2 =>
    rintro fr σ1 ⟨r, f13, f55, rfl, hcp⟩
    have hdr : ∀ v, View (σ.set p (.cells [int r.2])) v σ v := fun v => view_drop (set_sub hp fun _ _ h => h)
    rw [hcp]
    simp only [go_sem, r_block, f55]
    refine aIf_by (fun k1 => ?_) (fun k1 => ?_)
    · simp only [go_sem, r_block, f13]
      refine aRet_view (r := .tup [int r.1, int 1]) rfl _ σ (hdr _) ⟨?_, rfl⟩
      show _ = AV.tup [int r.1, int (hintN (if r.2 = 0 then _ else _))]
      rw [if_pos (by omega)]
      rfl
    · simp only [go_sem, r_block, f55]
      refine aIf_by (fun k2 => ?_) (fun k2 => ?_)
      · simp only [go_sem, r_block, f13]
        refine aRet_view (r := .tup [int r.1, int 2]) rfl _ σ (hdr _) ⟨?_, rfl⟩
        show _ = AV.tup [int r.1, int (hintN (if r.2 = 0 then _ else if r.2 = 12 then _ else _))]
        rw [if_neg (by omega), if_pos (by omega)]
        rfl
      · simp only [go_sem, r_block, f13]
        refine aRet_view (r := .tup [int r.1, int 0]) rfl _ σ (hdr _) ⟨?_, rfl⟩
        show _ = AV.tup [int r.1, int (hintN (if r.2 = 0 then _ else if r.2 = 12 then _ else _))]
        rw [if_neg (by omega), if_neg (by omega)]
        rfl
end
end Go.Proofs.YthdfpankebjleaaGreat.F

/-
  The library's sort, of facts: patterns are broken.
  Conditions: none.
-/
namespace Go.Proofs.YthdfpankebjleaaGreat.F
open Go Go.Av Go.Sort

section
variable {α : Type} [Inhabited α] {en : α → List AV} (hl : ∀ x, (en x).length = 4) (ho : ∀ x, (en x).all AV.one = true) {cf : α → α → Int} {g : Nat}
variable {σ : St} {b cap : Nat} {d : Array α} (hb : σ b = some (.rows 4 (rw' en d) false cap)) {n : Nat} (hd : d.size = n) (hsz : n ≤ 1000000000)
/-- The rounds. -/
def brk (d : Array α) (a len m i0 : Nat) : Nat → UInt64 × Array α
  | 0 => (UInt64.ofNat len, d)
  | j + 1 => breakStep a len m (brk d a len m i0 j) (i0 + j)
theorem pow_bl {len : Nat} (h : 0 < len) : 1 <<< bitsLen len ≤ 2 * len := by
  unfold bitsLen
  rw [if_neg (by omega), Nat.one_shiftLeft, Nat.pow_succ]
  have := Nat.log2_self_le (n := len) (by omega)
  omega
theorem brk_eq {a e : Nat} (h : 8 ≤ e - a) : breakPatterns d a e = (brk d a (e - a) (1 <<< bitsLen (e - a)) (a + (e - a) / 4 * 2 - 1) 3).2 := by
  unfold breakPatterns
  simp only [ge_iff_le, h, if_true]
  rfl
theorem bandu {x y : Nat} (hx : x < 18446744073709551616) (hy : y < 18446744073709551616) : band .u64 (x : Int) (y : Int) = ((x &&& y : Nat) : Int) := by
  show IntKind.u64.wrap ((BitVec.ofInt 64 (x : Int) &&& BitVec.ofInt 64 (y : Int)).toNat : Int) = _
  have h : x &&& y ≤ x := Nat.and_le_left
  rw [wrapu, BitVec.toNat_and, ofI, ofI, Nat.mod_eq_of_lt hx, Nat.mod_eq_of_lt hy, Nat.mod_eq_of_lt (by omega)]
/-- The other one of a round. -/
def oth (len m : Nat) (s : UInt64) : Nat := if len ≤ (s.toNat &&& (m - 1)) then (s.toNat &&& (m - 1)) - len else s.toNat &&& (m - 1)
theorem oth_lt {len : Nat} {s : UInt64} (h : 0 < len) : oth len (1 <<< bitsLen len) s < len := by
  have h1 := pow_bl h
  have h2 : s.toNat &&& (1 <<< bitsLen len - 1) ≤ 1 <<< bitsLen len - 1 := Nat.and_le_right
  unfold oth
  split <;> omega
include hl ho hb hd hsz
theorem break_at {a e : Nat} (he : e ≤ n) (ha : a + 8 ≤ e) : AT Tryz.prog 147 [slv b n cap, int a, int e, fnv g] σ fun _ σ' => σ' = σ.set b (.rows 4 (rw' en (breakPatterns d a e)) false cap) := by
  refine AT.of_body Tryz.func147 rfl (by decide) (by kernel_rfl) (by kernel_rfl) (Nat.le_of_ble_eq_true rfl) ?_
  rw [brk_eq (by omega)]
  obtain ⟨len, hlen⟩ : ∃ len, len = e - a := ⟨_, rfl⟩
  obtain ⟨m, hm⟩ : ∃ m, m = 1 <<< bitsLen len := ⟨_, rfl⟩
  have hm2 : m ≤ 2 * len := by rw [hm]; exact pow_bl (by omega)
  have hm1 : 1 ≤ m := by rw [hm, Nat.one_shiftLeft]; exact Nat.one_le_two_pow
  obtain ⟨q, hq⟩ : ∃ q, q = len / 4 := ⟨_, rfl⟩
  have w1 : IntKind.i64.wrap ((e : Int) - a) = (len : Int) := by rw [wrap64 (by omega)]; omega
  have w2 : IntKind.i64.wrap ((len : Int).tdiv 4) = (q : Int) := by rw [Int.tdiv_eq_ediv_of_nonneg (by omega), wrap64 (by omega)]; omega
  have w3 : IntKind.i64.wrap ((a : Int) + IntKind.i64.wrap ((q : Int) * 2)) = ((a + q * 2 : Nat) : Int) := by rw [wrap64 (x := (q : Int) * 2) (by omega), wrap64 (by omega)]; omega
  have w4 : IntKind.i64.wrap (((a + q * 2 : Nat) : Int) - 1) = ((a + q * 2 - 1 : Nat) : Int) := by rw [wrap64 (by omega)]; omega
  have w5 : IntKind.i64.wrap (((a + q * 2 : Nat) : Int) + 1) = ((a + q * 2 + 1 : Nat) : Int) := by rw [wrap64 (by omega)]; omega
  have w6 : IntKind.u64.wrap (len : Int) = ((UInt64.ofNat len).toNat : Int) := by rw [wrapu, UInt64.toNat_ofNat']
  rw [← hlen, ← hm, ← hq]
  have d8 := decide_eq_true (show (8 : Int) ≤ (len : Int) by omega)
  simp only [go_sem, w1, d8, w6]
  refine aNew_intro fun r hr hrx => ?_
  have hrb : r ≠ b := fun h => hrx b _ hb h.symm
  simp only [go_sem]
  refine (pow2_at (by omega)).mono ?_
  rintro _ σ1 ⟨rfl, rfl⟩
  rw [← hm]
  simp only [go_sem, r_block, w2, w3, w4]
  refine ⟨fun k fr σ' => ∃ j : Nat, k = 3 - j ∧ j ≤ 3 ∧ (brk d a len m (a + q * 2 - 1) j).2.size = n ∧ σ' b = some (.rows 4 (rw' en (brk d a len m (a + q * 2 - 1) j).2) false cap) ∧ σ' r = some (.cells [u64 (brk d a len m (a + q * 2 - 1) j).1.toNat]) ∧ (∀ x o, σ x = some o → x ≠ b → σ' x = some o) ∧ fr 0 = slv b n cap ∧ fr 1 = int a ∧ fr 8 = int len ∧ fr 9 = .v (.pointer (some ⟨r, 0, none⟩)) ∧ fr 10 = u64 m ∧ fr 11 = int (a + q * 2 - 1 + j : Nat), ⟨_, 0, rfl, by omega, hd, by rw [set_ne (Ne.symm hrb)]; exact hb, set_same, fun x o hx _ => set_sub hr (fun _ _ h => h) x o hx, rfl, rfl, rfl, rfl, rfl, rfl⟩, ?_⟩
  rintro k fr σ' ⟨j, rfl, hj, hdd, hbb, hrr, hss, f0, f1, f8, f9, f10, f11⟩
  simp only [go_sem, f1, f8, f11, w2, w3, w5]
  refine aIf_by (fun hlt => ?_) (fun hlt => ?_)
  · have hj3 : j < 3 := by omega
    have hst : brk d a len m (a + q * 2 - 1) (j + 1) = (xorNext (brk d a len m (a + q * 2 - 1) j).1, swp (brk d a len m (a + q * 2 - 1) j).2 (a + q * 2 - 1 + j) (a + oth len m (xorNext (brk d a len m (a + q * 2 - 1) j).1))) := rfl
    generalize brk d a len m (a + q * 2 - 1) j = st at hdd hbb hrr hst
    obtain ⟨s, dd⟩ := st
    have hot : oth len m (xorNext s) < len := by rw [hm]; exact oth_lt (by omega)
    simp only [go_sem, r_block, f9]
    refine (next_at hrr).mono ?_
    rintro _ _ ⟨rfl, rfl⟩
    have v1 : IntKind.u64.wrap ((m : Int) - 1) = ((m - 1 : Nat) : Int) := by
      rw [show ((m : Int) - 1) = ((m - 1 : Nat) : Int) by omega, wrapu]; omega
    have v2 : band .u64 ((xorNext s).toNat : Int) ((m - 1 : Nat) : Int) = (((xorNext s).toNat &&& (m - 1) : Nat) : Int) := bandu (xorNext s).toNat_lt (by omega)
    have hand : (xorNext s).toNat &&& (m - 1) ≤ m - 1 := Nat.and_le_right
    obtain ⟨t, ht⟩ : ∃ t, t = (xorNext s).toNat &&& (m - 1) := ⟨_, rfl⟩
    rw [← ht] at v2 hand
    have v3 : IntKind.i64.wrap (t : Int) = (t : Int) := wrap64 (by omega)
    simp only [go_sem, f1, f8, f10, v1, v2, v3]
    refine aIf_meet (fun fr σ'' => σ'' = σ'.set r (.cells [u64 (xorNext s).toNat]) ∧ fr 0 = slv b n cap ∧ fr 1 = int a ∧ fr 8 = int len ∧ fr 9 = .v (.pointer (some ⟨r, 0, none⟩)) ∧ fr 10 = u64 m ∧ fr 11 = int (a + q * 2 - 1 + j : Nat) ∧ fr 12 = int (oth len m (xorNext s))) (fun g1 => ?_) (fun g1 => ?_) ?_
    · have v4 : IntKind.i64.wrap ((t : Int) - len) = ((t - len : Nat) : Int) := by rw [wrap64 (by omega)]; omega
      have e : oth len m (xorNext s) = t - len := by unfold oth; rw [← ht, if_pos (by omega)]
      simp only [go_sem, f0, f1, f8, f9, f10, f11, v4, e]
    · have e : oth len m (xorNext s) = t := by unfold oth; rw [← ht, if_neg (by omega)]
      simp only [go_sem, f0, f1, f8, f9, f10, f11, e]
    clear f0 f1 f8 f9 f10 f11 ht v1 v2 v3
    generalize oth len m (xorNext s) = k at hot hst
    rintro fr σ2 ⟨hσ2, f0, f1, f8, f9, f10, f11, f12⟩
    obtain ⟨i, hi⟩ : ∃ i, i = a + q * 2 - 1 + j := ⟨_, rfl⟩
    have hb2 : σ2 b = some (.rows 4 (rw' en dd) false cap) := by rw [hσ2, set_ne (Ne.symm hrb)]; exact hbb
    have hr2 : σ2 r = some (.cells [u64 (xorNext s).toNat]) := by rw [hσ2]; exact set_same
    have hs2 : ∀ x o, σ x = some o → x ≠ b → σ2 x = some o := fun x o hx hxb => by
      rw [hσ2, set_ne (hrx x o hx)]; exact hss x o hx hxb
    have hdd : dd.size = n := hdd
    have v5 : IntKind.i64.wrap ((a : Int) + (k : Int)) = ((a + k : Nat) : Int) := by rw [wrap64 (by omega)]; omega
    have v6 : IntKind.i64.wrap (((a + q * 2 - 1 + j : Nat) : Int) + 1) = ((a + q * 2 - 1 + (j + 1) : Nat) : Int) := by rw [wrap64 (by omega)]; omega
    have q1 := rw_get (en := en) (d := dd) (j := a + q * 2 - 1 + j) (by omega)
    have q2 := rw_get (en := en) (d := dd) (j := a + k) (by omega)
    have q3 := rw_get (en := en) (d := dd.setIfInBounds (a + q * 2 - 1 + j) dd[a + k]!) (j := a + k) (by rw [Array.size_setIfInBounds]; omega)
    simp only [go_sem]
    refine aDraw_plan [.rd 0 false, .rd 1 false, .rd 2 false, .rd 3 false, .rd 4 false, .rd 5 false, .rd 6 false, .rd 7 false, .rd 8 false, .rd 9 false, .rd 10 false, .rd 11 true, .rd 12 false, .rd 13 false, .rd 14 false, .rd 15 true, .rd 16 false, .ef 17 [], .rd 18 false, .ef 19 []] (by kernel_rfl) (by kernel_rfl) (by kernel_rfl) ?_
    simp only [go_sem, f0, f1, f11, f12, v5, hb2, set_same, q1, q2, en_take hl, en_app hl, hl, ho, rw_set, q3, Array.size_setIfInBounds, v6, f8, f9, f10]
    refine ⟨by omega, by omega, by omega, by omega, by omega, by omega, by omega, by omega, 3 - (j + 1), by omega, j + 1, rfl, by omega, by rw [hst, swp_size]; exact hdd, by rw [hst]; rfl, by rw [set_ne hrb, hst]; exact hr2, fun x o hx hxb => by rw [set_ne hxb]; exact hs2 x o hx hxb, rfl⟩
  · obtain rfl : j = 3 := by omega
    simp only [go_sem]
    refine aRet_view (r := .tup []) rfl _ (σ.set b (.rows 4 (rw' en (brk d a len m (a + q * 2 - 1) 3).2) false cap)) (view_drop fun x o hx => ?_) rfl
    by_cases e : x = b
    · subst e
      rw [set_same] at hx
      rw [hbb]; exact hx
    · rw [set_ne e] at hx
      exact hss x o hx e
end
end Go.Proofs.YthdfpankebjleaaGreat.F

/-
  The library's sort, of facts: what is nearly sorted.
  Conditions: none.
-/
namespace Go.Proofs.YthdfpankebjleaaGreat.F
open Go Go.Av Go.Sort

section
variable {α : Type} [Inhabited α] {en : α → List AV} (hl : ∀ x, (en x).length = 4) (ho : ∀ x, (en x).all AV.one = true) {cf : α → α → Int} {g : Nat} {β : St} (hC : ∀ σ', (∀ x o, β x = some o → σ' x = some o) → ∀ x y, AT Tryz.prog g [.agg (en x), .agg (en y)] σ' fun r σ'' => r = int (cf x y) ∧ σ'' = σ')
variable {σ : St} {b cap : Nat} {d : Array α} (hb : σ b = some (.rows 4 (rw' en d) false cap)) (hn : β b = none) (hs : ∀ x o, β x = some o → σ x = some o) {n : Nat} (hd : d.size = n) (hsz : n ≤ 1000000000)
theorem scan_eq {lt : α → α → Bool} {d : Array α} {e i : Nat} : scanSorted lt d e i = if i < e ∧ lt d[i]! d[i - 1]! = false then scanSorted lt d e (i + 1) else i := by
  rw [scanSorted]
  by_cases h : i < e <;> cases h2 : lt d[i]! d[i - 1]! <;> simp [h]
theorem up_eq {lt : α → α → Bool} {d : Array α} {e j : Nat} : shiftUp lt e j d = if j < e ∧ lt d[j]! d[j - 1]! = true then shiftUp lt e (j + 1) (swp d j (j - 1)) else d := by
  rw [shiftUp]
  by_cases h : j < e <;> cases h2 : lt d[j]! d[j - 1]! <;> simp [h]
/-- One step. -/
def pst (lt : α → α → Bool) (a e : Nat) (i : Nat) (d : Array α) : Array α :=
  let d1 := swp d i (i - 1)
  let d2 := if 2 ≤ i - a then shiftDown lt (i - 1) d1 else d1
  if 2 ≤ e - i then shiftUp lt e (i + 1) d2 else d2
theorem pin_eq {lt : α → α → Bool} {a e s i : Nat} {d : Array α} : partialIns lt a e (s + 1) i d = if scanSorted lt d e i = e then (d, true) else if e - a < 50 then (d, false) else partialIns lt a e s (scanSorted lt d e i) (pst lt a e (scanSorted lt d e i) d) := rfl
include hl ho hC hb hn hs hd hsz
theorem partial_at {a e : Nat} (he : e ≤ n) (ha : a < e) : AT Tryz.prog 150 [slv b n cap, int a, int e, fnv g] σ fun r σ' => r = boo (partialInsertionSort (ltc cf) d a e).2 ∧ σ' = σ.set b (.rows 4 (rw' en (partialInsertionSort (ltc cf) d a e).1) false cap) := by
  refine AT.of_body Tryz.func150 rfl (by decide) (by kernel_rfl) (by kernel_rfl) (Nat.le_of_ble_eq_true rfl) ?_
  simp only [go_sem, r_block, next64 (show a < 9223372036854775807 by omega)]
  refine ⟨fun m fr σ' => ∃ (s i : Nat) (d' : Array α), m = s ∧ s ≤ 5 ∧ a < i ∧ i ≤ e ∧ d'.size = n ∧ partialIns (ltc cf) a e s i d' = partialInsertionSort (ltc cf) d a e ∧ σ' = σ.set b (.rows 4 (rw' en d') false cap) ∧ fr 0 = slv b n cap ∧ fr 1 = int a ∧ fr 2 = int e ∧ fr 3 = fnv g ∧ fr 9 = int i ∧ fr 10 = int ((5 : Int) - s), ⟨_, 5, a + 1, d, rfl, by omega, by omega, by omega, hd, rfl, (set_id hb).symm, rfl, rfl, rfl, rfl, rfl, rfl⟩, ?_⟩
  rintro m fr σ' ⟨s, i, dd, hm, h5, hi1, hi2, hdd, hI, rfl, f0, f1, f2, f3, f9, f10⟩
  subst hm
  simp only [go_sem, f10]
  refine aIf_by (fun hlt => ?_) (fun hlt => ?_)
  · obtain ⟨t, rfl⟩ : ∃ t, m = t + 1 := ⟨m - 1, by omega⟩
    rw [pin_eq] at hI
    simp only [go_sem]
    rw [r_block]
    simp only [go_sem]
    refine aMeet (fun fr σ' => σ' = σ.set b (.rows 4 (rw' en dd) false cap) ∧ ∃ j : Nat, a < j ∧ j ≤ e ∧ scanSorted (ltc cf) dd e i = j ∧ fr 0 = slv b n cap ∧ fr 1 = int a ∧ fr 2 = int e ∧ fr 3 = fnv g ∧ fr 9 = int j ∧ fr 10 = int ((5 : Int) - (t + 1 : Nat))) ?_ ?_
    · simp only [go_sem, r_block]
      refine ⟨fun k fr σ' => ∃ j : Nat, k = e - j ∧ a < j ∧ j ≤ e ∧ scanSorted (ltc cf) dd e j = scanSorted (ltc cf) dd e i ∧ σ' = σ.set b (.rows 4 (rw' en dd) false cap) ∧ fr 0 = slv b n cap ∧ fr 1 = int a ∧ fr 2 = int e ∧ fr 3 = fnv g ∧ fr 9 = int j ∧ fr 10 = int ((5 : Int) - (t + 1 : Nat)), ⟨_, i, rfl, hi1, hi2, rfl, rfl, f0, f1, f2, f3, f9, f10⟩, ?_⟩
      clear f0 f1 f2 f3 f9 f10 fr
      rintro k fr σ' ⟨j, rfl, hj1, hj2, hJ, rfl, f0, f1, f2, f3, f9, f10⟩
      rw [scan_eq] at hJ
      have w1 : IntKind.i64.wrap ((j : Int) - 1) = ((j - 1 : Nat) : Int) := by rw [wrap64 (by omega)]; omega
      simp only [go_sem]
      refine aDraw_plan [.rd 0 false, .rd 1 false, .rd 2 false, .rd 3 false, .rd 4 false, .rd 5 false, .rd 6 false, .rd 7 false, .rd 8 true, .rd 9 false, .rd 10 false, .rd 11 false, .rd 12 false, .rd 13 true, .ef 14 [], .rd 15 false, .rd 16 false, .rd 17 false] (by kernel_rfl) (by kernel_rfl) (by kernel_rfl) ?_
      by_cases g1 : (j : Int) < e
      · have q1 := rw_get (en := en) (d := dd) (j := j) (by omega)
        have q2 := rw_get (en := en) (d := dd) (j := j - 1) (by omega)
        simp only [go_sem, f0, f1, f2, f3, f9, decide_eq_true g1, w1, set_same, q1, q2, en_take hl]
        refine ⟨by omega, by omega, by omega, by omega, (hC _ (sub_set hn hs) _ _).mono ?_⟩
        rintro _ σ1 ⟨rfl, rfl⟩
        simp only [go_sem]
        refine aIf_by (fun g2 => ?_) (fun g2 => ?_)
        · rw [if_neg (by unfold ltc; rw [decide_eq_true g2]; simp)] at hJ
          simp only [go_sem]
          exact ⟨j, hj1, hj2, hJ.symm, f0, f1, f2, f3, f9, f10⟩
        · rw [if_pos ⟨by omega, by unfold ltc; exact decide_eq_false g2⟩] at hJ
          simp only [go_sem, r_block, f0, f1, f2, f3, f9, f10, next64 (show j < 9223372036854775807 by omega)]
          exact ⟨e - (j + 1), by omega, j + 1, rfl, by omega, by omega, hJ, rfl⟩
      · rw [if_neg (by omega)] at hJ
        simp only [go_sem, f2, f9, decide_eq_false g1]
        exact ⟨j, hj1, hj2, hJ.symm, f0, f1, f3, rfl, f10⟩
    clear f0 f1 f2 f3 f9 f10 fr
    rintro fr σ' ⟨rfl, j, hj1, hj2, hJ, f0, f1, f2, f3, f9, f10⟩
    rw [hJ] at hI
    have w1 : IntKind.i64.wrap ((j : Int) - 1) = ((j - 1 : Nat) : Int) := by rw [wrap64 (by omega)]; omega
    have w2 : IntKind.i64.wrap ((e : Int) - a) = ((e - a : Nat) : Int) := by rw [wrap64 (by omega)]; omega
    have w3 : IntKind.i64.wrap ((j : Int) - a) = ((j - a : Nat) : Int) := by rw [wrap64 (by omega)]; omega
    have w4 : IntKind.i64.wrap ((e : Int) - j) = ((e - j : Nat) : Int) := by rw [wrap64 (by omega)]; omega
    simp only [go_sem, f2, f9]
    refine aIf_by (fun g1 => ?_) (fun g1 => ?_)
    · rw [if_pos (by omega)] at hI
      simp only [go_sem]
      rw [← hI]
      exact aRet_as (r := boo true) rfl ⟨rfl, rfl⟩
    rw [if_neg (by omega)] at hI
    simp only [go_sem, f1, f2, w2]
    refine aIf_by (fun g2 => ?_) (fun g2 => ?_)
    · rw [if_pos (by omega)] at hI
      simp only [go_sem]
      rw [← hI]
      exact aRet_as (r := boo false) rfl ⟨rfl, rfl⟩
    rw [if_neg (by omega)] at hI
    simp only [go_sem]
    have q1 := rw_get (en := en) (d := dd) (j := j) (by omega)
    have q2 := rw_get (en := en) (d := dd) (j := j - 1) (by omega)
    have q3 := rw_get (en := en) (d := dd.setIfInBounds j dd[j - 1]!) (j := j - 1) (by rw [Array.size_setIfInBounds]; omega)
    refine aDraw_plan [.rd 0 false, .rd 1 false, .rd 2 false, .rd 3 false, .rd 4 false, .rd 5 false, .rd 6 false, .rd 7 false, .rd 8 false, .rd 9 true, .rd 10 false, .rd 11 false, .rd 12 false, .rd 13 true, .rd 14 false, .ef 15 [], .rd 16 false, .ef 17 []] (by kernel_rfl) (by kernel_rfl) (by kernel_rfl) ?_
    simp only [go_sem, f0, f1, f2, f3, f9, w1, w3, set_same, q1, q2, en_take hl, en_app hl, hl, ho, rw_set, q3, Array.size_setIfInBounds]
    refine ⟨by omega, by omega, by omega, by omega, by omega, by omega, by omega, by omega, ?_⟩
    obtain ⟨d1, hd1⟩ : ∃ d1, d1 = swp dd j (j - 1) := ⟨_, rfl⟩
    have hz1 : d1.size = n := by rw [hd1, swp_size]; exact hdd
    have hI : partialIns (ltc cf) a e t j (if 2 ≤ e - j then shiftUp (ltc cf) e (j + 1) (if 2 ≤ j - a then shiftDown (ltc cf) (j - 1) d1 else d1) else (if 2 ≤ j - a then shiftDown (ltc cf) (j - 1) d1 else d1)) = partialInsertionSort (ltc cf) d a e := by rw [hd1]; exact hI
    have e1 : AObj.rows 4 (rw' en ((dd.setIfInBounds j dd[j - 1]!).setIfInBounds (j - 1) dd[j]!)) false cap = AObj.rows 4 (rw' en d1) false cap := by rw [hd1]; rfl
    rw [e1]
    clear e1 q1 q2 q3
    refine aIf_meet (fun fr σ' => ∃ d2, d2 = (if 2 ≤ j - a then shiftDown (ltc cf) (j - 1) d1 else d1) ∧ d2.size = n ∧ σ' = σ.set b (.rows 4 (rw' en d2) false cap) ∧ fr 0 = slv b n cap ∧ fr 1 = int a ∧ fr 2 = int e ∧ fr 3 = fnv g ∧ fr 9 = int j ∧ fr 10 = int ((5 : Int) - (t + 1 : Nat))) (fun g3 => ?_) (fun g3 => ?_) ?_
    · rw [if_pos (by omega)]
      simp only [go_sem, r_block, f9, w1]
      refine ⟨fun m fr σ' => ∃ (k : Nat) (dk : Array α), m = k + 1 ∧ k < n ∧ dk.size = n ∧ shiftDown (ltc cf) k dk = shiftDown (ltc cf) (j - 1) d1 ∧ σ' = σ.set b (.rows 4 (rw' en dk) false cap) ∧ fr 0 = slv b n cap ∧ fr 1 = int a ∧ fr 2 = int e ∧ fr 3 = fnv g ∧ fr 9 = int j ∧ fr 10 = int ((5 : Int) - (t + 1 : Nat)) ∧ fr 11 = int k, ⟨_, j - 1, d1, rfl, by omega, hz1, rfl, rfl, f0, f1, f2, f3, f9, f10, rfl⟩, ?_⟩
      clear f0 f1 f2 f3 f9 f10 fr
      rintro m fr σ' ⟨k, dk, rfl, hk, hdk, hK, rfl, f0, f1, f2, f3, f9, f10, f11⟩
      simp only [go_sem, f11]
      refine aIf_by (fun g4 => ?_) (fun g4 => ?_)
      · obtain ⟨l, rfl⟩ : ∃ l, k = l + 1 := ⟨k - 1, by omega⟩
        have w5 : IntKind.i64.wrap (((l + 1 : Nat) : Int) - 1) = (l : Int) := by rw [wrap64 (by omega)]; omega
        have q1 := rw_get (en := en) (d := dk) (j := l + 1) (by omega)
        have q2 := rw_get (en := en) (d := dk) (j := l) (by omega)
        have q3 := rw_get (en := en) (d := dk.setIfInBounds (l + 1) dk[l]!) (j := l) (by rw [Array.size_setIfInBounds]; omega)
        rw [shiftDown] at hK
        simp only [go_sem, r_block]
        refine aDraw_plan [.rd 0 false, .rd 1 false, .rd 2 false, .rd 3 false, .rd 4 true, .rd 5 false, .rd 6 false, .rd 7 false, .rd 8 false, .rd 9 true, .ef 10 [], .rd 11 false, .rd 12 false] (by kernel_rfl) (by kernel_rfl) (by kernel_rfl) ?_
        simp only [go_sem, f0, f3, f11, w5, set_same, q1, q2, en_take hl]
        refine ⟨by omega, by omega, by omega, by omega, (hC _ (sub_set hn hs) _ _).mono ?_⟩
        rintro _ σ1 ⟨rfl, rfl⟩
        simp only [go_sem]
        refine aIf_by (fun g5 => ?_) (fun g5 => ?_)
        · rw [if_neg (by unfold ltc; rw [decide_eq_true g5]; simp)] at hK
          simp only [go_sem]
          refine aDraw_plan [.rd 0 false, .rd 1 false, .rd 2 false, .rd 3 false, .rd 4 false, .rd 5 false, .rd 6 false, .rd 7 false, .rd 8 false, .rd 9 true, .rd 10 false, .rd 11 false, .rd 12 false, .rd 13 true, .rd 14 false, .ef 15 [], .rd 16 false, .ef 17 []] (by kernel_rfl) (by kernel_rfl) (by kernel_rfl) ?_
          simp only [go_sem, f0, f3, f11, w5, set_same, q1, q2, en_take hl, en_app hl, hl, ho, rw_set, q3, Array.size_setIfInBounds, f1, f2, f9, f10]
          exact ⟨by omega, by omega, by omega, by omega, by omega, by omega, by omega, by omega, l + 1, by omega, l, swp dk (l + 1) l, rfl, by omega, by rw [swp_size]; exact hdk, hK, rfl, rfl⟩
        · rw [if_pos (by unfold ltc; rw [decide_eq_false g5]; rfl)] at hK
          simp only [go_sem]
          exact ⟨dk, hK, hdk, rfl, f0, f1, f2, f3, f9, f10⟩
      · obtain rfl : k = 0 := by omega
        simp only [go_sem]
        exact ⟨dk, hK, hdk, rfl, f0, f1, f2, f3, f9, f10⟩
    · rw [if_neg (by omega)]
      simp only [go_sem]
      exact ⟨d1, rfl, hz1, rfl, f0, f1, f2, f3, f9, f10⟩
    clear f0 f1 f2 f3 f9 f10 fr
    rintro fr σ' ⟨d2, hd2, hz2, rfl, f0, f1, f2, f3, f9, f10⟩
    rw [← hd2] at hI
    clear hd1 hd2 hz1 d1
    simp only [go_sem, f2, f9, w4]
    have w6 : IntKind.i64.wrap (((5 : Int) - (t + 1 : Nat)) + 1) = (5 : Int) - (t : Nat) := by rw [wrap64 (by omega)]; omega
    refine aIf_by (fun g3 => ?_) (fun g3 => ?_)
    · rw [if_pos (by omega)] at hI
      simp only [go_sem, r_block, f9, next64 (show j < 9223372036854775807 by omega)]
      refine ⟨fun m fr σ' => ∃ (k : Nat) (dk : Array α), m = e - k ∧ j < k ∧ dk.size = n ∧ shiftUp (ltc cf) e k dk = shiftUp (ltc cf) e (j + 1) d2 ∧ σ' = σ.set b (.rows 4 (rw' en dk) false cap) ∧ fr 0 = slv b n cap ∧ fr 1 = int a ∧ fr 2 = int e ∧ fr 3 = fnv g ∧ fr 9 = int j ∧ fr 10 = int ((5 : Int) - (t + 1 : Nat)) ∧ fr 12 = int k, ⟨_, j + 1, d2, rfl, by omega, hz2, rfl, rfl, f0, f1, f2, f3, f9, f10, rfl⟩, ?_⟩
      clear f0 f1 f2 f3 f9 f10 fr
      rintro m fr σ' ⟨k, dk, rfl, hk, hdk, hK, rfl, f0, f1, f2, f3, f9, f10, f12⟩
      rw [up_eq] at hK
      simp only [go_sem, f12, f2]
      refine aIf_by (fun g4 => ?_) (fun g4 => ?_)
      · have w5 : IntKind.i64.wrap ((k : Int) - 1) = ((k - 1 : Nat) : Int) := by rw [wrap64 (by omega)]; omega
        have q1 := rw_get (en := en) (d := dk) (j := k) (by omega)
        have q2 := rw_get (en := en) (d := dk) (j := k - 1) (by omega)
        have q3 := rw_get (en := en) (d := dk.setIfInBounds k dk[k - 1]!) (j := k - 1) (by rw [Array.size_setIfInBounds]; omega)
        simp only [go_sem, r_block]
        refine aDraw_plan [.rd 0 false, .rd 1 false, .rd 2 false, .rd 3 false, .rd 4 true, .rd 5 false, .rd 6 false, .rd 7 false, .rd 8 false, .rd 9 true, .ef 10 [], .rd 11 false, .rd 12 false] (by kernel_rfl) (by kernel_rfl) (by kernel_rfl) ?_
        simp only [go_sem, f0, f3, f12, w5, set_same, q1, q2, en_take hl]
        refine ⟨by omega, by omega, by omega, by omega, (hC _ (sub_set hn hs) _ _).mono ?_⟩
        rintro _ σ1 ⟨rfl, rfl⟩
        simp only [go_sem]
        refine aIf_by (fun g5 => ?_) (fun g5 => ?_)
        · rw [if_pos ⟨by omega, by unfold ltc; exact decide_eq_true g5⟩] at hK
          simp only [go_sem]
          refine aDraw_plan [.rd 0 false, .rd 1 false, .rd 2 false, .rd 3 false, .rd 4 false, .rd 5 false, .rd 6 false, .rd 7 false, .rd 8 false, .rd 9 true, .rd 10 false, .rd 11 false, .rd 12 false, .rd 13 true, .rd 14 false, .ef 15 [], .rd 16 false, .ef 17 []] (by kernel_rfl) (by kernel_rfl) (by kernel_rfl) ?_
          simp only [go_sem, f0, f3, f12, w5, set_same, q1, q2, en_take hl, en_app hl, hl, ho, rw_set, q3, Array.size_setIfInBounds, f1, f2, f9, f10, next64 (show k < 9223372036854775807 by omega)]
          exact ⟨by omega, by omega, by omega, by omega, by omega, by omega, by omega, by omega, e - (k + 1), by omega, k + 1, swp dk k (k - 1), rfl, by omega, by rw [swp_size]; exact hdk, hK, rfl, rfl⟩
        · rw [if_neg (fun h => g5 (of_decide_eq_true h.2))] at hK
          simp only [go_sem, f0, f1, f2, f3, f9, f10, w6]
          exact ⟨t, by omega, t, j, dk, rfl, by omega, hj1, hj2, hdk, by rw [hK]; exact hI, rfl, rfl, rfl⟩
      · rw [if_neg (fun h => g4 (by omega))] at hK
        simp only [go_sem, f0, f1, f2, f3, f9, f10, w6]
        exact ⟨t, by omega, t, j, dk, rfl, by omega, hj1, hj2, hdk, by rw [hK]; exact hI, rfl, rfl, rfl⟩
    · rw [if_neg (by omega)] at hI
      simp only [go_sem, f0, f1, f2, f3, f9, f10, w6]
      exact ⟨t, by omega, t, j, d2, rfl, by omega, hj1, hj2, hz2, hI, rfl, rfl, rfl⟩
  · obtain rfl : m = 0 := by omega
    simp only [go_sem]
    rw [← hI]
    exact aRet_as (r := boo false) rfl ⟨rfl, rfl⟩
end
end Go.Proofs.YthdfpankebjleaaGreat.F

/-
  The library's sort, of facts: parting those that are equal.
  Conditions: none.
-/
namespace Go.Proofs.YthdfpankebjleaaGreat.F
open Go Go.Av Go.Sort

section
variable {α : Type} [Inhabited α] {en : α → List AV} (hl : ∀ x, (en x).length = 4) (ho : ∀ x, (en x).all AV.one = true) {cf : α → α → Int} {g : Nat} {β : St} (hC : ∀ σ', (∀ x o, β x = some o → σ' x = some o) → ∀ x y, AT Tryz.prog g [.agg (en x), .agg (en y)] σ' fun r σ'' => r = int (cf x y) ∧ σ'' = σ')
variable {σ : St} {b cap : Nat} {d : Array α} (hb : σ b = some (.rows 4 (rw' en d) false cap)) (hn : β b = none) (hs : ∀ x o, β x = some o → σ x = some o) {n : Nat} (hd : d.size = n) (hsz : n ≤ 1000000000)
theorem sup_eq {p : α → Bool} {d : Array α} {j i : Nat} : scanUp p d j i = if i ≤ j ∧ p d[i]! = true then scanUp p d j (i + 1) else i := by
  rw [scanUp]
  by_cases h : i ≤ j <;> cases h2 : p d[i]! <;> simp [h]
theorem sdn_eq {p : α → Bool} {d : Array α} {i j : Nat} (hi : 1 ≤ i) : scanDown p d i j = if i ≤ j ∧ p d[j]! = true then scanDown p d i (j - 1) else j := by
  cases j with
  | zero => rw [scanDown, if_neg (fun h => by omega)]
  | succ k =>
    rw [scanDown]
    by_cases h : i ≤ k + 1 <;> cases h2 : p d[k + 1]! <;> simp [h]
theorem peq_stop {lt : α → α → Bool} {a i j i2 j2 : Nat} {d : Array α} (h1 : scanUp (fun x => !lt d[a]! x) d j i = i2) (h2 : scanDown (fun x => lt d[a]! x) d i2 j = j2) (h : j2 < i2) : partEqLoop lt a i j d = (i2, d) := by
  rw [partEqLoop]
  simp only [h1, h2]
  rw [if_pos h]
theorem peq_go {lt : α → α → Bool} {a i j i2 j2 : Nat} {d : Array α} (h1 : scanUp (fun x => !lt d[a]! x) d j i = i2) (h2 : scanDown (fun x => lt d[a]! x) d i2 j = j2) (h : ¬ j2 < i2) (hi : i ≤ i2) (hj : j2 ≤ j) : partEqLoop lt a i j d = partEqLoop lt a (i2 + 1) (j2 - 1) (swp d i2 j2) := by
  rw [partEqLoop]
  simp only [h1, h2]
  rw [if_neg h, dif_pos (by omega)]
include hl ho hC hb hn hs hd hsz
theorem parteq_at {a e pv : Nat} (he : e ≤ n) (ha : a + 2 ≤ e) (hp : pv < n) : AT Tryz.prog 151 [slv b n cap, int a, int e, int pv, fnv g] σ fun r σ' => r = int (partitionEqual (ltc cf) d a e pv).1 ∧ σ' = σ.set b (.rows 4 (rw' en (partitionEqual (ltc cf) d a e pv).2) false cap) := by
  refine AT.of_body Tryz.func151 rfl (by decide) (by kernel_rfl) (by kernel_rfl) (Nat.le_of_ble_eq_true rfl) ?_
  have q1 := rw_get (en := en) (d := d) (j := a) (by omega)
  have q2 := rw_get (en := en) (d := d) (j := pv) (by omega)
  have q3 := rw_get (en := en) (d := d.setIfInBounds a d[pv]!) (j := pv) (by rw [Array.size_setIfInBounds]; omega)
  have w1 : IntKind.i64.wrap ((e : Int) - 1) = ((e - 1 : Nat) : Int) := by rw [wrap64 (by omega)]; omega
  simp only [go_sem]
  refine aDraw_plan [.rd 0 false, .rd 1 false, .rd 2 false, .rd 3 false, .rd 4 false, .rd 5 false, .rd 6 false, .rd 7 true, .rd 8 false, .rd 9 false, .rd 10 false, .rd 11 true, .rd 12 false, .ef 13 [], .rd 14 false, .ef 15 []] (by kernel_rfl) (by kernel_rfl) (by kernel_rfl) ?_
  simp only [go_sem, r_block, hb, set_same, q1, q2, en_take hl, en_app hl, hl, ho, rw_set, q3, Array.size_setIfInBounds, w1, next64 (show a < 9223372036854775807 by omega)]
  refine ⟨by omega, by omega, by omega, by omega, by omega, by omega, by omega, by omega, ?_⟩
  clear q1 q2 q3
  refine ⟨fun m fr σ' => ∃ (i j : Nat) (d' : Array α), m = j + 1 - i ∧ a < i ∧ i ≤ e ∧ j < e ∧ i ≤ j + 2 ∧ d'.size = n ∧ partEqLoop (ltc cf) a i j d' = partitionEqual (ltc cf) d a e pv ∧ σ' = σ.set b (.rows 4 (rw' en d') false cap) ∧ fr 0 = slv b n cap ∧ fr 1 = int a ∧ fr 4 = fnv g ∧ fr 11 = int i ∧ fr 12 = int j, ⟨_, a + 1, e - 1, swp d a pv, rfl, by omega, by omega, by omega, by omega, by rw [swp_size]; exact hd, rfl, rfl, rfl, rfl, rfl, rfl, rfl⟩, ?_⟩
  rintro m fr σ' ⟨i, j, dd, rfl, hi1, hi2, hj1, hij, hdd, hI, rfl, f0, f1, f4, f11, f12⟩
  simp only [go_sem]
  rw [r_block]
  simp only [go_sem]
  refine aMeet (fun fr σ' => σ' = σ.set b (.rows 4 (rw' en dd) false cap) ∧ ∃ i2 : Nat, i ≤ i2 ∧ (i2 ≤ i ∨ i2 ≤ j + 1) ∧ scanUp (fun x => !ltc cf dd[a]! x) dd j i = i2 ∧ fr 0 = slv b n cap ∧ fr 1 = int a ∧ fr 4 = fnv g ∧ fr 11 = int i2 ∧ fr 12 = int j) ?_ ?_
  · simp only [go_sem, r_block]
    refine ⟨fun m fr σ' => ∃ i2 : Nat, m = j + 1 - i2 ∧ i ≤ i2 ∧ (i2 ≤ i ∨ i2 ≤ j + 1) ∧ scanUp (fun x => !ltc cf dd[a]! x) dd j i2 = scanUp (fun x => !ltc cf dd[a]! x) dd j i ∧ σ' = σ.set b (.rows 4 (rw' en dd) false cap) ∧ fr 0 = slv b n cap ∧ fr 1 = int a ∧ fr 4 = fnv g ∧ fr 11 = int i2 ∧ fr 12 = int j, ⟨_, i, rfl, by omega, by omega, rfl, rfl, f0, f1, f4, f11, f12⟩, ?_⟩
    clear f0 f1 f4 f11 f12 fr
    rintro m fr σ' ⟨i2, rfl, h1, h2, hJ, rfl, f0, f1, f4, f11, f12⟩
    rw [sup_eq] at hJ
    simp only [go_sem]
    refine aDraw_plan [.rd 0 false, .rd 1 false, .rd 2 false, .rd 3 false, .rd 4 false, .rd 5 false, .rd 6 false, .rd 7 false, .rd 8 true, .rd 9 false, .rd 10 false, .rd 11 false, .rd 12 true, .ef 13 [], .rd 14 false, .rd 15 false, .rd 16 false] (by kernel_rfl) (by kernel_rfl) (by kernel_rfl) ?_
    by_cases g1 : (i2 : Int) ≤ j
    · have q1 := rw_get (en := en) (d := dd) (j := i2) (by omega)
      have q2 := rw_get (en := en) (d := dd) (j := a) (by omega)
      simp only [go_sem, f0, f1, f4, f11, f12, decide_eq_true g1, set_same, q1, q2, en_take hl]
      refine ⟨by omega, by omega, by omega, by omega, (hC _ (sub_set hn hs) _ _).mono ?_⟩
      rintro _ σ1 ⟨rfl, rfl⟩
      simp only [go_sem]
      refine aIf_by (fun g2 => ?_) (fun g2 => ?_)
      · rw [if_neg (by unfold ltc; rw [decide_eq_true g2]; simp)] at hJ
        simp only [go_sem]
        exact ⟨i2, h1, h2, hJ.symm, f0, f1, f4, f11, f12⟩
      · rw [if_pos ⟨by omega, by unfold ltc; rw [decide_eq_false g2]; rfl⟩] at hJ
        simp only [go_sem, r_block, f0, f1, f4, f11, f12, next64 (show i2 < 9223372036854775807 by omega)]
        exact ⟨j + 1 - (i2 + 1), by omega, i2 + 1, rfl, by omega, by omega, hJ, rfl⟩
    · rw [if_neg (by omega)] at hJ
      simp only [go_sem, f11, f12, decide_eq_false g1]
      exact ⟨i2, h1, h2, hJ.symm, f0, f1, f4, rfl⟩
  clear f0 f1 f4 f11 f12 fr
  rintro fr σ' ⟨rfl, i2, h1, h2, hi3, f0, f1, f4, f11, f12⟩
  simp only [go_sem]
  refine aMeet (fun fr σ' => σ' = σ.set b (.rows 4 (rw' en dd) false cap) ∧ ∃ j2 : Nat, j2 ≤ j ∧ scanDown (fun x => ltc cf dd[a]! x) dd i2 j = j2 ∧ (i2 ≤ j → i2 ≤ j2 + 1) ∧ (j < i2 → j2 = j) ∧ fr 0 = slv b n cap ∧ fr 1 = int a ∧ fr 4 = fnv g ∧ fr 11 = int i2 ∧ fr 12 = int j2) ?_ ?_
  · simp only [go_sem, r_block]
    refine ⟨fun m fr σ' => ∃ j2 : Nat, m = j2 ∧ j2 ≤ j ∧ scanDown (fun x => ltc cf dd[a]! x) dd i2 j2 = scanDown (fun x => ltc cf dd[a]! x) dd i2 j ∧ (i2 ≤ j → i2 ≤ j2 + 1) ∧ (j < i2 → j2 = j) ∧ σ' = σ.set b (.rows 4 (rw' en dd) false cap) ∧ fr 0 = slv b n cap ∧ fr 1 = int a ∧ fr 4 = fnv g ∧ fr 11 = int i2 ∧ fr 12 = int j2, ⟨_, j, rfl, by omega, rfl, by omega, by omega, rfl, f0, f1, f4, f11, f12⟩, ?_⟩
    clear f0 f1 f4 f11 f12 fr
    rintro m fr σ' ⟨j2, hm, k1, hJ, k2, k3, rfl, f0, f1, f4, f11, f12⟩
    subst hm
    rw [sdn_eq (by omega)] at hJ
    simp only [go_sem]
    refine aDraw_plan [.rd 0 false, .rd 1 false, .rd 2 false, .rd 3 false, .rd 4 false, .rd 5 false, .rd 6 false, .rd 7 false, .rd 8 true, .rd 9 false, .rd 10 false, .rd 11 false, .rd 12 true, .ef 13 [], .rd 14 false, .rd 15 false] (by kernel_rfl) (by kernel_rfl) (by kernel_rfl) ?_
    by_cases g1 : (i2 : Int) ≤ m
    · have q1 := rw_get (en := en) (d := dd) (j := m) (by omega)
      have q2 := rw_get (en := en) (d := dd) (j := a) (by omega)
      have w2 : IntKind.i64.wrap ((m : Int) - 1) = ((m - 1 : Nat) : Int) := by rw [wrap64 (by omega)]; omega
      simp only [go_sem, f0, f1, f4, f11, f12, decide_eq_true g1, set_same, q1, q2, en_take hl]
      refine ⟨by omega, by omega, by omega, by omega, (hC _ (sub_set hn hs) _ _).mono ?_⟩
      rintro _ σ1 ⟨rfl, rfl⟩
      simp only [go_sem]
      refine aIf_by (fun g2 => ?_) (fun g2 => ?_)
      · rw [if_pos ⟨by omega, by unfold ltc; exact decide_eq_true g2⟩] at hJ
        simp only [go_sem, r_block, f0, f1, f4, f11, f12, w2]
        exact ⟨m - 1, by omega, m - 1, rfl, by omega, hJ, by omega, by omega, rfl⟩
      · rw [if_neg (fun h => g2 (of_decide_eq_true h.2))] at hJ
        simp only [go_sem]
        exact ⟨m, k1, hJ.symm, k2, k3, f0, f1, f4, f11, f12⟩
    · rw [if_neg (fun h => g1 (by omega))] at hJ
      simp only [go_sem, f11, f12, decide_eq_false g1]
      exact ⟨m, k1, hJ.symm, k2, k3, f0, f1, f4, rfl⟩
  clear f0 f1 f4 f11 f12 fr
  rintro fr σ' ⟨rfl, j2, k1, hj3, k2, k3, f0, f1, f4, f11, f12⟩
  simp only [go_sem, f11, f12]
  refine aIf_by (fun g1 => ?_) (fun g1 => ?_)
  · rw [peq_stop hi3 hj3 (by omega)] at hI
    simp only [go_sem, f11]
    rw [← hI]
    exact aRet_as (r := int i2) rfl ⟨rfl, rfl⟩
  · rw [peq_go hi3 hj3 (by omega) h1 k1] at hI
    have w2 : IntKind.i64.wrap ((j2 : Int) - 1) = ((j2 - 1 : Nat) : Int) := by rw [wrap64 (by omega)]; omega
    have q1 := rw_get (en := en) (d := dd) (j := i2) (by omega)
    have q2 := rw_get (en := en) (d := dd) (j := j2) (by omega)
    have q3 := rw_get (en := en) (d := dd.setIfInBounds i2 dd[j2]!) (j := j2) (by rw [Array.size_setIfInBounds]; omega)
    simp only [go_sem]
    refine aDraw_plan [.rd 0 false, .rd 1 false, .rd 2 false, .rd 3 false, .rd 4 false, .rd 5 false, .rd 6 false, .rd 7 true, .rd 8 false, .rd 9 false, .rd 10 false, .rd 11 true, .rd 12 false, .ef 13 [], .rd 14 false, .ef 15 []] (by kernel_rfl) (by kernel_rfl) (by kernel_rfl) ?_
    simp only [go_sem, f0, f1, f4, f11, f12, set_same, q1, q2, en_take hl, en_app hl, hl, ho, rw_set, q3, Array.size_setIfInBounds, w2, next64 (show i2 < 9223372036854775807 by omega)]
    exact ⟨by omega, by omega, by omega, by omega, by omega, by omega, by omega, by omega, j2 - 1 + 1 - (i2 + 1), by omega, i2 + 1, j2 - 1, swp dd i2 j2, rfl, by omega, by omega, by omega, by omega, by rw [swp_size]; exact hdd, hI, rfl, rfl, rfl⟩
end
end Go.Proofs.YthdfpankebjleaaGreat.F
