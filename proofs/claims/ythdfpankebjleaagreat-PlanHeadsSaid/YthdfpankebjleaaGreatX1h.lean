/-
  Contracts of the functions that the statement reaches, and the plain laws of what they reckon.
  Conditions: none.
-/
import Derived.Test.YthdfpankebjleaaGreatRows
import Derived.Sort.AssemblyPlain
import Derived.Test.YthdfpankebjleaaGreatV1
import Derived.Test.YthdfpankebjleaaGreatV2
import Derived.Test.YthdfpankebjleaaGreatV3
set_option linter.unusedVariables false
set_option linter.unusedSimpArgs false
set_option linter.unusedSectionVars false
set_option maxRecDepth 100000
/- The types of this translation, as the logic asks of them. Conditions: none. -/
namespace Go.Proofs.YthdfpankebjleaaGreat
open Go Go.Av
def zl0 : List Value := [.string ⟨#[]⟩, .bool false, .int .i64 0, .string ⟨#[]⟩, .string ⟨#[]⟩, .slice none 0 0, .string ⟨#[]⟩, .bool false, .int .i64 0, .string ⟨#[]⟩, .slice none 0 0, .string ⟨#[]⟩, .int .i64 0, .string ⟨#[]⟩, .string ⟨#[]⟩, .string ⟨#[]⟩, .slice none 0 0, .slice none 0 0]
@[go_sem] theorem zl0_len : zl0.length = 18 := _root_.id rfl
@[go_sem] theorem zl0_one : zl0.all Value.oneCell' = true := _root_.id rfl
def zl1 : List Value := [.string ⟨#[]⟩, .bool false, .int .i64 0, .string ⟨#[]⟩, .string ⟨#[]⟩, .slice none 0 0, .string ⟨#[]⟩, .bool false, .int .i64 0, .string ⟨#[]⟩, .slice none 0 0, .slice none 0 0, .string ⟨#[]⟩, .string ⟨#[]⟩, .string ⟨#[]⟩, .slice none 0 0, .slice none 0 0, .slice none 0 0, .slice none 0 0, .int .i64 0]
@[go_sem] theorem zl1_len : zl1.length = 20 := _root_.id rfl
@[go_sem] theorem zl1_one : zl1.all Value.oneCell' = true := _root_.id rfl
@[go_sem] theorem tk3 : tk Tryz.prog 3 = some ⟨false, 1, [.int .i64 0], .int .i64⟩ := _root_.id (by kernel_rfl)
@[go_sem] theorem tk4 : tk Tryz.prog 4 = some ⟨false, 1, [.bool false], .bool⟩ := _root_.id (by kernel_rfl)
@[go_sem] theorem ib4 : isBool Tryz.prog 4 = true := _root_.id (by kernel_rfl)
@[go_sem] theorem tk5 : tk Tryz.prog 5 = some ⟨false, 1, [.int .u8 0], .int .u8⟩ := _root_.id (by kernel_rfl)
@[go_sem] theorem tk9 : tk Tryz.prog 9 = some ⟨false, 1, [.string ⟨#[]⟩], .str⟩ := _root_.id (by kernel_rfl)
@[go_sem] theorem tk20 : tk Tryz.prog 20 = some ⟨false, 1, [.nilIface], .iface⟩ := _root_.id (by kernel_rfl)
@[go_sem] theorem tk22 : tk Tryz.prog 22 = some ⟨false, 1, [.slice none 0 0], .sl 1 16 [.string ⟨#[]⟩] false⟩ := _root_.id (by kernel_rfl)
@[go_sem] theorem is22 : isSl Tryz.prog 22 = true := _root_.id (by kernel_rfl)
@[go_sem] theorem tk23 : tk Tryz.prog 23 = some ⟨false, 1, [.slice none 0 0], .sl 11 160 [.string ⟨#[]⟩, .bool false, .int .i64 0, .string ⟨#[]⟩, .string ⟨#[]⟩, .slice none 0 0, .string ⟨#[]⟩, .bool false, .int .i64 0, .string ⟨#[]⟩, .slice none 0 0] false⟩ := _root_.id (by kernel_rfl)
@[go_sem] theorem is23 : isSl Tryz.prog 23 = true := _root_.id (by kernel_rfl)
@[go_sem] theorem tk24 : tk Tryz.prog 24 = some ⟨false, 1, [.slice none 0 0], .sl 4 72 [.string ⟨#[]⟩, .string ⟨#[]⟩, .string ⟨#[]⟩, .slice none 0 0] false⟩ := _root_.id (by kernel_rfl)
@[go_sem] theorem is24 : isSl Tryz.prog 24 = true := _root_.id (by kernel_rfl)
@[go_sem] theorem tk26 : tk Tryz.prog 26 = some ⟨true, 4, [.slice none 0 0, .slice none 0 0, .slice none 0 0, .slice none 0 0], .st [(0, 1, false), (1, 1, false), (2, 1, false), (3, 1, false)]⟩ := _root_.id (by kernel_rfl)
@[go_sem] theorem tk31 : tk Tryz.prog 31 = some ⟨false, 1, [.int .i64 0], .int .i64⟩ := _root_.id (by kernel_rfl)
@[go_sem] theorem tk35 : tk Tryz.prog 35 = some ⟨true, 2, [.slice none 0 0, .slice none 0 0], .st [(0, 1, false), (1, 1, false)]⟩ := _root_.id (by kernel_rfl)
@[go_sem] theorem tk38 : tk Tryz.prog 38 = some ⟨true, 3, [.bool false, .int .i64 0, .string ⟨#[]⟩], .st [(0, 1, false), (1, 1, false), (2, 1, false)]⟩ := _root_.id (by kernel_rfl)
@[go_sem] theorem tk40 : tk Tryz.prog 40 = some ⟨true, 4, [.string ⟨#[]⟩, .bool false, .int .i64 0, .string ⟨#[]⟩], .st [(0, 1, false), (1, 3, true)]⟩ := _root_.id (by kernel_rfl)
@[go_sem] theorem tk41 : tk Tryz.prog 41 = some ⟨false, 1, [.slice none 0 0], .sl 4 48 [.string ⟨#[]⟩, .bool false, .int .i64 0, .string ⟨#[]⟩] false⟩ := _root_.id (by kernel_rfl)
@[go_sem] theorem is41 : isSl Tryz.prog 41 = true := _root_.id (by kernel_rfl)
@[go_sem] theorem tk42 : tk Tryz.prog 42 = some ⟨false, 1, [.slice none 0 0], .sl 10 136 [.string ⟨#[]⟩, .bool false, .int .i64 0, .string ⟨#[]⟩, .string ⟨#[]⟩, .slice none 0 0, .string ⟨#[]⟩, .bool false, .int .i64 0, .string ⟨#[]⟩] false⟩ := _root_.id (by kernel_rfl)
@[go_sem] theorem is42 : isSl Tryz.prog 42 = true := _root_.id (by kernel_rfl)
@[go_sem] theorem tk44 : tk Tryz.prog 44 = some ⟨true, 11, [.string ⟨#[]⟩, .bool false, .int .i64 0, .string ⟨#[]⟩, .string ⟨#[]⟩, .slice none 0 0, .string ⟨#[]⟩, .bool false, .int .i64 0, .string ⟨#[]⟩, .slice none 0 0], .st [(0, 4, true), (4, 1, false), (5, 1, false), (6, 4, true), (10, 1, false)]⟩ := _root_.id (by kernel_rfl)
@[go_sem] theorem tk45 : tk Tryz.prog 45 = some ⟨false, 1, [.slice none 0 0], .sl 3 32 [.bool false, .int .i64 0, .string ⟨#[]⟩] false⟩ := _root_.id (by kernel_rfl)
@[go_sem] theorem is45 : isSl Tryz.prog 45 = true := _root_.id (by kernel_rfl)
@[go_sem] theorem tk47 : tk Tryz.prog 47 = some ⟨true, 4, [.string ⟨#[]⟩, .string ⟨#[]⟩, .string ⟨#[]⟩, .slice none 0 0], .st [(0, 1, false), (1, 1, false), (2, 1, false), (3, 1, false)]⟩ := _root_.id (by kernel_rfl)
@[go_sem] theorem tk48 : tk Tryz.prog 48 = some ⟨false, 1, [.nilFunc], .other⟩ := _root_.id (by kernel_rfl)
@[go_sem] theorem tk54 : tk Tryz.prog 54 = some ⟨false, 1, [.pointer none], .ptr 56⟩ := _root_.id (by kernel_rfl)
@[go_sem] theorem ip54 : isPtr Tryz.prog 54 = true := _root_.id (by kernel_rfl)
@[go_sem] theorem tk56 : tk Tryz.prog 56 = some ⟨true, 4, [.slice none 0 0, .slice none 0 0, .int .i64 0, .bool false], .st [(0, 1, false), (1, 1, false), (2, 1, false), (3, 1, false)]⟩ := _root_.id (by kernel_rfl)
@[go_sem] theorem tk62 : tk Tryz.prog 62 = some ⟨true, 18, zl0, .st [(0, 11, true), (11, 1, false), (12, 1, false), (13, 4, true), (17, 1, false)]⟩ := _root_.id (by kernel_rfl)
@[go_sem] theorem tk63 : tk Tryz.prog 63 = some ⟨false, 1, [.slice none 0 0], .sl 1 24 [.slice none 0 0] false⟩ := _root_.id (by kernel_rfl)
@[go_sem] theorem is63 : isSl Tryz.prog 63 = true := _root_.id (by kernel_rfl)
@[go_sem] theorem tk69 : tk Tryz.prog 69 = some ⟨false, 1, [.nilFunc], .other⟩ := _root_.id (by kernel_rfl)
@[go_sem] theorem tk70 : tk Tryz.prog 70 = some ⟨false, 1, [.slice none 0 0], .sl 4 48 [.string ⟨#[]⟩, .bool false, .int .i64 0, .string ⟨#[]⟩] false⟩ := _root_.id (by kernel_rfl)
@[go_sem] theorem is70 : isSl Tryz.prog 70 = true := _root_.id (by kernel_rfl)
@[go_sem] theorem tk75 : tk Tryz.prog 75 = some ⟨true, 10, [.string ⟨#[]⟩, .bool false, .int .i64 0, .string ⟨#[]⟩, .string ⟨#[]⟩, .slice none 0 0, .string ⟨#[]⟩, .bool false, .int .i64 0, .string ⟨#[]⟩], .st [(0, 4, true), (4, 1, false), (5, 1, false), (6, 4, true)]⟩ := _root_.id (by kernel_rfl)
@[go_sem] theorem tk80 : tk Tryz.prog 80 = some ⟨true, 6, [.int .i64 0, .string ⟨#[]⟩, .string ⟨#[]⟩, .string ⟨#[]⟩, .slice none 0 0, .slice none 0 0], .st [(0, 1, false), (1, 4, true), (5, 1, false)]⟩ := _root_.id (by kernel_rfl)
@[go_sem] theorem tk87 : tk Tryz.prog 87 = some ⟨false, 1, [.nilFunc], .other⟩ := _root_.id (by kernel_rfl)
@[go_sem] theorem tk89 : tk Tryz.prog 89 = some ⟨false, 1, [.nilFunc], .other⟩ := _root_.id (by kernel_rfl)
@[go_sem] theorem tk97 : tk Tryz.prog 97 = some ⟨false, 1, [.pointer none], .ptr 99⟩ := _root_.id (by kernel_rfl)
@[go_sem] theorem ip97 : isPtr Tryz.prog 97 = true := _root_.id (by kernel_rfl)
@[go_sem] theorem tk99 : tk Tryz.prog 99 = some ⟨true, 3, [.slice none 0 0, .int .i64 0, .bool false], .st [(0, 1, false), (1, 1, false), (2, 1, false)]⟩ := _root_.id (by kernel_rfl)
@[go_sem] theorem tk102 : tk Tryz.prog 102 = some ⟨false, 1, [.slice none 0 0], .sl 1 8 [.int .i64 0] false⟩ := _root_.id (by kernel_rfl)
@[go_sem] theorem is102 : isSl Tryz.prog 102 = true := _root_.id (by kernel_rfl)
@[go_sem] theorem tk105 : tk Tryz.prog 105 = some ⟨false, 1, [.slice none 0 0], .sl 2 24 [.string ⟨#[]⟩, .int .i64 0] false⟩ := _root_.id (by kernel_rfl)
@[go_sem] theorem is105 : isSl Tryz.prog 105 = true := _root_.id (by kernel_rfl)
@[go_sem] theorem tk115 : tk Tryz.prog 115 = some ⟨true, 4, [.string ⟨#[]⟩, .bool false, .int .i64 0, .string ⟨#[]⟩], .st [(0, 1, false), (1, 3, true)]⟩ := _root_.id (by kernel_rfl)
@[go_sem] theorem tk122 : tk Tryz.prog 122 = some ⟨false, 1, [.nilFunc], .other⟩ := _root_.id (by kernel_rfl)
@[go_sem] theorem tk123 : tk Tryz.prog 123 = some ⟨false, 1, [.slice none 0 0], .sl 4 40 [.int .i64 0, .string ⟨#[]⟩, .int .i64 0, .int .i64 0] false⟩ := _root_.id (by kernel_rfl)
@[go_sem] theorem is123 : isSl Tryz.prog 123 = true := _root_.id (by kernel_rfl)
@[go_sem] theorem tk126 : tk Tryz.prog 126 = some ⟨false, 1, [.pointer none], .ptr 128⟩ := _root_.id (by kernel_rfl)
@[go_sem] theorem ip126 : isPtr Tryz.prog 126 = true := _root_.id (by kernel_rfl)
@[go_sem] theorem tk128 : tk Tryz.prog 128 = some ⟨true, 2, [.slice none 0 0, .int .i64 0], .st [(0, 1, false), (1, 1, false)]⟩ := _root_.id (by kernel_rfl)
@[go_sem] theorem tk130 : tk Tryz.prog 130 = some ⟨true, 2, [.int .i64 0, .int .i64 0], .st [(0, 1, false), (1, 1, false)]⟩ := _root_.id (by kernel_rfl)
@[go_sem] theorem tk138 : tk Tryz.prog 138 = some ⟨false, 1, [.nilFunc], .other⟩ := _root_.id (by kernel_rfl)
@[go_sem] theorem tk143 : tk Tryz.prog 143 = some ⟨false, 1, [.nilFunc], .other⟩ := _root_.id (by kernel_rfl)
@[go_sem] theorem tk149 : tk Tryz.prog 149 = some ⟨false, 1, [.pointer none], .ptr 151⟩ := _root_.id (by kernel_rfl)
@[go_sem] theorem ip149 : isPtr Tryz.prog 149 = true := _root_.id (by kernel_rfl)
@[go_sem] theorem tk151 : tk Tryz.prog 151 = some ⟨true, 20, zl1, .st [(0, 11, true), (11, 1, false), (12, 4, true), (16, 1, false), (17, 1, false), (18, 1, false), (19, 1, false)]⟩ := _root_.id (by kernel_rfl)
@[go_sem] theorem tk163 : tk Tryz.prog 163 = some ⟨false, 1, [.nilFunc], .other⟩ := _root_.id (by kernel_rfl)
@[go_sem] theorem tk166 : tk Tryz.prog 166 = some ⟨true, 4, [.int .i64 0, .string ⟨#[]⟩, .int .i64 0, .int .i64 0], .st [(0, 1, false), (1, 1, false), (2, 1, false), (3, 1, false)]⟩ := _root_.id (by kernel_rfl)
@[go_sem] theorem tk178 : tk Tryz.prog 178 = some ⟨false, 1, [.int .u64 0], .int .u64⟩ := _root_.id (by kernel_rfl)
@[go_sem] theorem tk185 : tk Tryz.prog 185 = some ⟨false, 1, [.nilFunc], .other⟩ := _root_.id (by kernel_rfl)
@[go_sem] theorem tk187 : tk Tryz.prog 187 = some ⟨true, 2, [.string ⟨#[]⟩, .int .i64 0], .st [(0, 1, false), (1, 1, false)]⟩ := _root_.id (by kernel_rfl)
@[go_sem] theorem tk195 : tk Tryz.prog 195 = some ⟨false, 1, [.int .i64 0], .int .i64⟩ := _root_.id (by kernel_rfl)
@[go_sem] theorem tk202 : tk Tryz.prog 202 = some ⟨false, 1, [.int .u32 0], .int .u32⟩ := _root_.id (by kernel_rfl)
@[go_sem] theorem tk204 : tk Tryz.prog 204 = some ⟨false, 1, [.int .u64 0], .int .u64⟩ := _root_.id (by kernel_rfl)
@[go_sem] theorem tk212 : tk Tryz.prog 212 = some ⟨false, 1, [.slice none 0 0], .sl 1 1 [.int .u8 0] true⟩ := _root_.id (by kernel_rfl)
@[go_sem] theorem is212 : isSl Tryz.prog 212 = true := _root_.id (by kernel_rfl)
@[go_sem] theorem tk213 : tk Tryz.prog 213 = some ⟨false, 1, [.int .u64 0], .int .u64⟩ := _root_.id (by kernel_rfl)
@[go_sem] theorem tk217 : tk Tryz.prog 217 = some ⟨false, 1, [.pointer none], .ptr 3⟩ := _root_.id (by kernel_rfl)
@[go_sem] theorem ip217 : isPtr Tryz.prog 217 = true := _root_.id (by kernel_rfl)
@[go_sem] theorem ic130 : isConc Tryz.prog 130 = true := _root_.id (by kernel_rfl)
end Go.Proofs.YthdfpankebjleaaGreat

/-
  Terms, literals, rules, facts, as they lie in memory; lists of numbers and texts.
  Conditions: none.
-/
namespace Go.Proofs.YthdfpankebjleaaGreat
open Go Go.Av

attribute [go_sem_proc] reduceIte Nat.reduceEqDiff Nat.reduceAdd Nat.reduceMul Nat.reduceSub Nat.reduceLT Nat.reduceLeDiff Int.reduceLE Int.reduceLT Int.reduceToNat Int.reduceEq
theorem meet_by {G : Prop} {R : Fr → St → Prop} (M : Fr → St → Prop) (h1 : (∀ fr σ, M fr σ → R fr σ) → G) (h2 : ∀ fr σ, M fr σ → R fr σ) : G := h1 h2
/-- A new row of zeros. -/
def aMkRow (σ : St) (q : Nat) (es : List (List AV)) (n c : Nat) (k : AV → St → Prop) : Prop := ∀ b, σ b = none → k (.v (.slice (some ⟨b, 0, none⟩) n c)) (σ.set b (.rows q es false c))
theorem aMkRow_intro {σ : St} {q n c : Nat} {es : List (List AV)} {k : AV → St → Prop} (h : ∀ b, σ b = none → (∀ x o, σ x = some o → x ≠ b) → k (.v (.slice (some ⟨b, 0, none⟩) n c)) (σ.set b (.rows q es false c))) : aMkRow σ q es n c k :=
  fun b hb => h b hb fun x o hx e => by subst e; rw [hb] at hx; cases hx
@[go_sem] theorem o_mksl {P : Program} {t : TypeId} {l c : Operand} {fr : Fr} {σ : St} {k : AV → St → Prop} : aOp P (.makeSlice t l c) fr σ k = aMkSl (tk P t) σ (fr.ev l) (fr.ev c) k := _root_.id rfl
@[go_sem] theorem mksl_v {σ : St} {k : AV → St → Prop} {ag byt : Bool} {sz q eby : Nat} {zr ez : List Value} {ik ik' : IntKind} {l c : Int} : aMkSl (some ⟨ag, sz, zr, .sl q eby ez byt⟩) σ (.v (.int ik l)) (.v (.int ik' c)) k = (0 < q ∧ 0 < eby ∧ ez.all Value.oneCell' = true ∧ 0 ≤ l ∧ l ≤ c ∧ (eby : Int) * c ≤ 281474976710656 ∧ aMkRow σ q (List.replicate l.toNat (ez.map .v)) l.toNat c.toNat k) := _root_.id rfl

abbrev ptr (b : Nat) : AV := .v (.pointer (some ⟨b, 0, none⟩))
abbrev int (n : Int) : AV := .v (.int .i64 n)
abbrev boo (b : Bool) : AV := .v (.bool b)
abbrev str (s : ByteArray) : AV := .v (.string s)
abbrev nilS : AV := .v (.slice none 0 0)
abbrev emp : ByteArray := ⟨#[]⟩

/-- A term: a variable, or a constant (a number or a text). -/
structure Tm where
  v : ByteArray
  b : Bool
  n : Int
  s : ByteArray
deriving DecidableEq
def Tm.cs (t : Tm) : List AV := [str t.v, boo t.b, int t.n, str t.s]
def Tm.zero : Tm := ⟨emp, false, 0, emp⟩
@[go_sem] theorem Tm.len (t : Tm) : t.cs.length = 4 := rfl
@[go_sem] theorem Tm.one (t : Tm) : t.cs.all AV.one = true := rfl
@[go_sem] theorem Tm.take (t : Tm) : t.cs.take 4 = t.cs := rfl
@[go_sem] theorem Tm.at0 (t : Tm) : t.cs.getD 0 (.v undef) = str t.v := rfl
def tmC (l : List Tm) : List (List AV) := l.map Tm.cs
@[go_sem] theorem tmC_len (l : List Tm) : (tmC l).length = l.length := by simp [tmC]
theorem tmC_get {l : List Tm} {i : Nat} (h : i < l.length) : (tmC l).getD i [] = l[i].cs := by simp [tmC, List.getD_eq_getElem?_getD, h]

/-- A literal: who says it, its name, its arguments, at whom. -/
structure Li where
  by' : Tm
  nm : ByteArray
  ar : List Tm
  at' : Tm
def Li.cs (l : Li) : List AV := [str l.by'.v, boo l.by'.b, int l.by'.n, str l.by'.s, str l.nm, .sl 4 (tmC l.ar), str l.at'.v, boo l.at'.b, int l.at'.n, str l.at'.s]
@[go_sem] theorem Li.len (l : Li) : l.cs.length = 10 := rfl
@[go_sem] theorem Li.one (l : Li) : l.cs.all AV.one = true := rfl
@[go_sem] theorem Li.take (l : Li) : l.cs.take 10 = l.cs := rfl
@[go_sem] theorem Li.at4 (l : Li) : l.cs.getD 4 (.v undef) = str l.nm := rfl
@[go_sem] theorem Li.at5 (l : Li) : l.cs.getD 5 (.v undef) = .sl 4 (tmC l.ar) := rfl
@[go_sem] theorem Li.at0 (l : Li) : l.cs.getD 0 (.v undef) = str l.by'.v := rfl
@[go_sem] theorem Li.at6 (l : Li) : l.cs.getD 6 (.v undef) = str l.at'.v := rfl
@[go_sem] theorem Li.by0 (l : Li) : l.cs.take 4 = l.by'.cs := rfl
@[go_sem] theorem Li.atm (l : Li) : (l.cs.drop 6).take 4 = l.at'.cs := rfl
@[go_sem] theorem Li.nm4 (l : Li) : (l.cs.drop 4).getD 0 (.v undef) = str l.nm := rfl
@[go_sem] theorem Li.ar5 (l : Li) : (l.cs.drop 5).getD 0 (.v undef) = .sl 4 (tmC l.ar) := rfl
@[go_sem] theorem Li.at60 (l : Li) : (l.cs.drop 6).getD 0 (.v undef) = str l.at'.v := rfl
def liC (l : List Li) : List (List AV) := l.map Li.cs
@[go_sem] theorem liC_len (l : List Li) : (liC l).length = l.length := by simp [liC]
theorem liC_get {l : List Li} {i : Nat} (h : i < l.length) : (liC l).getD i [] = l[i].cs := by simp [liC, List.getD_eq_getElem?_getD, h]

attribute [go_sem] Nat.le_refl Nat.zero_le Nat.zero_add Nat.add_zero Nat.mul_one Int.toNat_natCast Int.natCast_nonneg Int.cast_ofNat_Int ne_eq not_true_eq_false not_false_eq_true imp_self implies_true true_implies false_implies and_self List.length_map List.length_drop
def Li.zero : Li := ⟨.zero, emp, [], .zero⟩
/-- A rule: whose, its head, its body. -/
structure Rl where
  ho : Tm
  nm : ByteArray
  ar : List Tm
  at' : Tm
  bo : List Li
def Rl.cs (r : Rl) : List AV := [str r.ho.v, boo r.ho.b, int r.ho.n, str r.ho.s, str r.nm, .sl 4 (tmC r.ar), str r.at'.v, boo r.at'.b, int r.at'.n, str r.at'.s, .sl 10 (liC r.bo)]
@[go_sem] theorem Rl.len (r : Rl) : r.cs.length = 11 := rfl
@[go_sem] theorem Rl.one (r : Rl) : r.cs.all AV.one = true := rfl
@[go_sem] theorem Rl.take (r : Rl) : r.cs.take 11 = r.cs := rfl
@[go_sem] theorem Rl.at0 (r : Rl) : r.cs.getD 0 (.v undef) = str r.ho.v := rfl
@[go_sem] theorem Rl.at10 (r : Rl) : r.cs.getD 10 (.v undef) = .sl 10 (liC r.bo) := rfl
@[go_sem] theorem Rl.ho0 (r : Rl) : r.cs.take 4 = r.ho.cs := rfl
@[go_sem] theorem Rl.nm4 (r : Rl) : (r.cs.drop 4).getD 0 (.v undef) = str r.nm := rfl
@[go_sem] theorem Rl.ar5 (r : Rl) : (r.cs.drop 5).getD 0 (.v undef) = .sl 4 (tmC r.ar) := rfl
@[go_sem] theorem Rl.bo10 (r : Rl) : (r.cs.drop 10).getD 0 (.v undef) = .sl 10 (liC r.bo) := rfl

def inC (l : List Int) : List (List AV) := l.map fun n => [int n]
@[go_sem] theorem inC_len (l : List Int) : (inC l).length = l.length := by simp [inC]
theorem inC_get {l : List Int} {i : Nat} (h : i < l.length) : (inC l).getD i [] = [int l[i]] := by simp [inC, List.getD_eq_getElem?_getD, h]
def stC (l : List ByteArray) : List (List AV) := l.map fun s => [str s]
@[go_sem] theorem stC_len (l : List ByteArray) : (stC l).length = l.length := by simp [stC]
theorem stC_get {l : List ByteArray} {i : Nat} (h : i < l.length) : (stC l).getD i [] = [str l[i]] := by simp [stC, List.getD_eq_getElem?_getD, h]

/-- What can be read of a slice: of a frozen one, or of one that the walk owns. -/
def Rd (q : Nat) (σ : St) (lv : AV) (es : List (List AV)) : Prop := lv = .sl q es ∨ LAt q σ lv es
section
variable {q : Nat} {σ σ' : St} {lv : AV} {es : List (List AV)} {K : AV → Prop}
theorem Rd.sl : Rd q σ (.sl q es) es := .inl rfl
theorem Rd.of (h : LAt q σ lv es) : Rd q σ lv es := .inr h
theorem Rd.len {ag : Bool} {sz eby : Nat} {zr ez : List Value} {byt : Bool} (h : Rd q σ lv es) : aLen (some ⟨ag, sz, zr, .sl q eby ez byt⟩) lv K = K (.v (.int .i64 es.length)) := by
  rcases h with rfl | h
  · rfl
  · exact h.len
theorem Rd.elem {ag : Bool} {sz eby : Nat} {zr ez : List Value} {byt : Bool} {ik : IntKind} {j : Int} (h : Rd q σ lv es) (h0 : 0 ≤ j) (h1 : j < es.length)
    (hk : ∀ p, EAt q σ p (es.getD j.toNat []) 0 → K p) : aIadr (some ⟨ag, sz, zr, .sl q eby ez byt⟩) σ lv (.v (.int ik j)) K := by
  rcases h with rfl | h
  · exact ⟨rfl, h0, h1, hk _ (.inl (by simp))⟩
  · exact h.elem h0 h1 hk
theorem Rd.keep (h : Rd q σ lv es) (hs : ∀ x o, σ x = some o → σ' x = some o) : Rd q σ' lv es := h.imp _root_.id fun h => h.keep fun x o hx _ => hs x o hx
end
theorem lat_src {q : Nat} {byt : Bool} {σ : St} {lv : AV} {es : List (List AV)} (hq : 0 < q) (h : LAt q σ lv es) : src q byt σ lv = some es := by
  rcases h with ⟨rfl, rfl⟩ | rfl | ⟨b, cap, rfl, hc, hb⟩
  · simp [src]
  · simp [src]
  · simp only [src, hb]
    rw [if_pos ⟨trivial, by simp, by simp⟩]
    simp
theorem lat_set {q b : Nat} {o o' : AObj} {σ : St} {lv : AV} {es : List (List AV)} (h : LAt q σ lv es) (hb : σ b = some o) (hn : ¬ Own lv b) : LAt q (σ.set b o') lv es :=
  h.keep fun x p hx ho => by
    have : x ≠ b := fun e => by subst e; exact hn ho
    rw [set_ne this]; exact hx

end Go.Proofs.YthdfpankebjleaaGreat

/-
  The library's sort with a function that holds two elements against each other: rows that are sorted in place.
  Conditions: none.
-/
namespace Go.Proofs.YthdfpankebjleaaGreat
open Go Go.Av

abbrev fnv (g : Nat) : AV := .v (.func (.func g) #[] #[])
abbrev slv (b n c : Nat) : AV := .v (.slice (some ⟨b, 0, none⟩) n c)
/-- Less, by a comparison's sign. -/
def ltc {α : Type} (cf : α → α → Int) (x y : α) : Bool := decide (cf x y < 0)
/-- The elements' cells. -/
def rw' {α : Type} (en : α → List AV) (d : Array α) : List (List AV) := d.toList.map en
section
variable {α : Type} {en : α → List AV} {d : Array α}
@[go_sem] theorem rw_len : (rw' en d).length = d.size := by simp [rw']
theorem rw_get [Inhabited α] {j : Nat} (h : j < d.size) : (rw' en d).getD j [] = en d[j]! := by
  simp [rw', List.getD_eq_getElem?_getD, h]
theorem rw_set {j : Nat} {x : α} : (rw' en d).set j (en x) = rw' en (d.setIfInBounds j x) := by
  simp [rw']
theorem swp_size [Inhabited α] {i j : Nat} : (Go.Sort.swp d i j).size = d.size := by simp [Go.Sort.swp]
end
theorem sub_set {β σ : St} {b : Nat} {ob : AObj} (hn : β b = none) (hs : ∀ x o, β x = some o → σ x = some o) : ∀ x o, β x = some o → (σ.set b ob) x = some o := fun x o hx => by
  have : x ≠ b := fun e => by subst e; rw [hn] at hx; cases hx
  rw [set_ne this]; exact hs x o hx
theorem en_take {α : Type} {en : α → List AV} {q : Nat} (hl : ∀ x, (en x).length = q) (x : α) : (en x).take q = en x := List.take_of_length_le (by rw [hl]; omega)
theorem en_app {α : Type} {en : α → List AV} {q : Nat} (hl : ∀ x, (en x).length = q) (x y : α) : en x ++ List.drop q (en y) = en x := by rw [List.drop_eq_nil_of_le (by rw [hl]; omega), List.append_nil]
/-- The greater one of the children. -/
def chd {α : Type} [Inhabited α] (lt : α → α → Bool) (hi f r : Nat) (d : Array α) : Nat := if 2 * r + 2 < hi ∧ lt d[f + (2 * r + 1)]! d[f + (2 * r + 2)]! = true then 2 * r + 2 else 2 * r + 1
theorem sift_stop {α : Type} [Inhabited α] {lt : α → α → Bool} {hi f r : Nat} {d : Array α} (h : ¬ 2 * r + 1 < hi) : Go.Sort.siftDown lt hi f r d = d := by
  rw [Go.Sort.siftDown]
  rw [dif_pos (by omega)]
theorem sift_step {α : Type} [Inhabited α] {lt : α → α → Bool} {hi f r : Nat} {d : Array α} (h : 2 * r + 1 < hi) : Go.Sort.siftDown lt hi f r d = if lt d[f + r]! d[f + chd lt hi f r d]! = true then Go.Sort.siftDown lt hi f (chd lt hi f r d) (Go.Sort.swp d (f + r) (f + chd lt hi f r d)) else d := by
  rw [Go.Sort.siftDown]
  rw [dif_neg (by omega)]
  by_cases h1 : 2 * r + 1 + 1 < hi
  · by_cases h2 : lt d[f + (2 * r + 1)]! d[f + (2 * r + 1) + 1]! = true
    · have hc : chd lt hi f r d = 2 * r + 2 := by unfold chd; exact if_pos ⟨h1, h2⟩
      rw [hc, if_pos (by simp only [h1, h2, decide_true, Bool.and_self]), dif_pos h1]
      by_cases h3 : lt d[f + r]! d[f + (2 * r + 2)]! = true
      · simp only [h3, Bool.not_true, Bool.false_eq_true, if_false, if_true]
      · simp only [h3, Bool.not_false, Bool.false_eq_true, if_true, if_false]
    · have hc : chd lt hi f r d = 2 * r + 1 := by unfold chd; exact if_neg fun h => h2 h.2
      rw [hc, if_neg (by simp only [h1, decide_true, Bool.true_and]; exact h2)]
      by_cases h3 : lt d[f + r]! d[f + (2 * r + 1)]! = true
      · simp only [h3, Bool.not_true, Bool.false_eq_true, if_false, if_true]
      · simp only [h3, Bool.not_false, Bool.false_eq_true, if_true, if_false]
  · have hc : chd lt hi f r d = 2 * r + 1 := by unfold chd; exact if_neg fun h => h1 h.1
    rw [hc, if_neg (by simp only [h1, decide_false, Bool.false_and, Bool.false_eq_true, not_false_eq_true])]
    by_cases h3 : lt d[f + r]! d[f + (2 * r + 1)]! = true
    · simp only [h3, Bool.not_true, Bool.false_eq_true, if_false, if_true]
    · simp only [h3, Bool.not_false, Bool.false_eq_true, if_true, if_false]
theorem chd_lt {α : Type} [Inhabited α] {lt : α → α → Bool} {hi f r : Nat} {d : Array α} (h : 2 * r + 1 < hi) : chd lt hi f r d < hi ∧ r < chd lt hi f r d := by
  unfold chd
  split
  · rename_i h; exact ⟨h.1, by omega⟩
  · exact ⟨h, by omega⟩
end Go.Proofs.YthdfpankebjleaaGreat

/-
  Texts and numbers held against each other.
  Conditions: none.
-/
namespace Go.Proofs.YthdfpankebjleaaGreat
open Go Go.Av

def cmpS (x y : ByteArray) : Int := if Op.bytesLess x.toList y.toList = true then -1 else if x = y then 0 else 1
section
variable {σ : St}
theorem nanS_at (x : ByteArray) : AT Tryz.prog 122 [str x] σ fun r σ' => r = boo false ∧ σ' = σ := by
  refine AT.of_body Tryz.func122 rfl (by decide) (by kernel_rfl) (by kernel_rfl) (Nat.le_of_ble_eq_true rfl) ?_
  simp only [go_sem]
  exact aRet_as (r := boo false) rfl ⟨rfl, rfl⟩
theorem cmpS_at (x y : ByteArray) : AT Tryz.prog 81 [str x, str y] σ fun r σ' => r = int (cmpS x y) ∧ σ' = σ := by
  refine AT.of_body Tryz.func81 rfl (by decide) (by kernel_rfl) (by kernel_rfl) (Nat.le_of_ble_eq_true rfl) ?_
  simp only [go_sem]
  refine (nanS_at x).mono ?_
  rintro _ _ ⟨rfl, rfl⟩
  simp only [go_sem]
  refine (nanS_at y).mono ?_
  rintro _ _ ⟨rfl, rfl⟩
  simp only [go_sem]
  refine aIf_bool (fun h1 => ?_) (fun h1 => ?_)
  · simp only [go_sem]
    exact aRet_as (r := int (-1)) rfl ⟨by unfold cmpS; rw [if_pos h1], rfl⟩
  · by_cases h2 : x = y
    · have e : (Op.bytesLess x.toList y.toList || decide (x = y)) = true := by rw [decide_eq_true h2]; simp
      simp only [go_sem, e, Bool.not_true]
      exact aRet_as (r := int 0) rfl ⟨by unfold cmpS; rw [if_neg (by rw [h1]; decide), if_pos h2], rfl⟩
    · have e : (Op.bytesLess x.toList y.toList || decide (x = y)) = false := by rw [decide_eq_false h2, h1]; rfl
      simp only [go_sem, e, Bool.not_false]
      exact aRet_as (r := int 1) rfl ⟨by unfold cmpS; rw [if_neg (by rw [h1]; decide), if_neg h2], rfl⟩
def cmpI (x y : Int) : Int := if x < y then -1 else if x = y then 0 else 1
theorem nanI_at (x : Int) : AT Tryz.prog 155 [int x] σ fun r σ' => r = boo false ∧ σ' = σ := by
  refine AT.of_body Tryz.func155 rfl (by decide) (by kernel_rfl) (by kernel_rfl) (Nat.le_of_ble_eq_true rfl) ?_
  simp only [go_sem]
  exact aRet_as (r := boo false) rfl ⟨rfl, rfl⟩
theorem cmpI_at (x y : Int) : AT Tryz.prog 123 [int x, int y] σ fun r σ' => r = int (cmpI x y) ∧ σ' = σ := by
  refine AT.of_body Tryz.func123 rfl (by decide) (by kernel_rfl) (by kernel_rfl) (Nat.le_of_ble_eq_true rfl) ?_
  simp only [go_sem]
  refine (nanI_at x).mono ?_
  rintro _ _ ⟨rfl, rfl⟩
  simp only [go_sem]
  refine (nanI_at y).mono ?_
  rintro _ _ ⟨rfl, rfl⟩
  simp only [go_sem]
  refine aIf_by (fun h1 => ?_) (fun h1 => ?_)
  · simp only [go_sem]
    exact aRet_as (r := int (-1)) rfl ⟨by unfold cmpI; rw [if_pos h1], rfl⟩
  · simp only [go_sem]
    refine aIf_by (fun h2 => ?_) (fun h2 => ?_)
    · simp only [go_sem]
      exact aRet_as (r := int 1) rfl ⟨by unfold cmpI; rw [if_neg h1, if_neg (by omega)], rfl⟩
    · simp only [go_sem]
      exact aRet_as (r := int 0) rfl ⟨by unfold cmpI; rw [if_neg h1, if_pos (by omega)], rfl⟩
/-- The first that is not 0. -/
def orI : List Int → Int
  | [] => 0
  | x :: l => if x = 0 then orI l else x
theorem or_at (l : List Int) (hl : l.length ≤ 1000000) : AT Tryz.prog 80 [.fsl 1 (inC l)] σ fun r σ' => r = int (orI l) ∧ σ' = σ := by
  refine AT.of_body Tryz.func80 rfl (by decide) (by kernel_rfl) (by kernel_rfl) (Nat.le_of_ble_eq_true rfl) ?_
  simp only [go_sem, r_block]
  refine ⟨fun m fr σ' => ∃ i : Nat, m = l.length - i ∧ i ≤ l.length ∧ σ' = σ ∧ orI (l.drop i) = orI l ∧ fr 3 = int 0 ∧ fr 6 = .fsl 1 (inC l) ∧ fr 7 = int l.length ∧ fr 8 = int i, ⟨_, 0, rfl, by omega, rfl, rfl, rfl, rfl, rfl, rfl⟩, ?_⟩
  rintro m fr σ' ⟨i, rfl, hi, rfl, hI, f3, f6, f7, f8⟩
  simp only [go_sem, f7, f8]
  refine aIf_by (fun hlt => ?_) (fun hlt => ?_)
  · have hil : i < l.length := by omega
    have e : l.drop i = l[i] :: l.drop (i + 1) := List.drop_eq_getElem_cons hil
    have e2 : orI (l[i] :: l.drop (i + 1)) = if l[i] = 0 then orI (l.drop (i + 1)) else l[i] := rfl
    rw [e, e2] at hI
    simp only [go_sem, r_block, f3, f6, f8, inC_get hil]
    refine ⟨by omega, aIf_by (fun h0 => ?_) (fun h0 => ?_)⟩
    · rw [if_pos h0] at hI
      simp only [go_sem, f3, f6, f7, f8, next64 (show i < 9223372036854775807 by omega)]
      exact ⟨l.length - (i + 1), by omega, i + 1, rfl, by omega, hI, rfl⟩
    · rw [if_neg h0] at hI
      simp only [go_sem]
      rw [← hI]
      exact aRet_as (r := int _) rfl ⟨rfl, rfl⟩
  · simp only [go_sem, f3]
    rw [← hI, List.drop_of_length_le (by omega)]
    exact aRet_as (r := int 0) rfl ⟨rfl, rfl⟩
end
end Go.Proofs.YthdfpankebjleaaGreat

/-
  Constants held against each other.
  Conditions: none.
-/
namespace Go.Proofs.YthdfpankebjleaaGreat
open Go Go.Av

/-- A constant: is it a number?, the number, the text. -/
structure Cn where
  b : Bool
  n : Int
  s : ByteArray
deriving DecidableEq
def Cn.cs (c : Cn) : List AV := [boo c.b, int c.n, str c.s]
@[go_sem] theorem Cn.len (c : Cn) : c.cs.length = 3 := rfl
@[go_sem] theorem Cn.one (c : Cn) : c.cs.all AV.one = true := rfl
@[go_sem] theorem Cn.take (c : Cn) : c.cs.take 3 = c.cs := rfl
@[go_sem] theorem Cn.at0 (c : Cn) : c.cs.getD 0 (.v undef) = boo c.b := rfl
@[go_sem] theorem Cn.at1 (c : Cn) : c.cs.getD 1 (.v undef) = int c.n := rfl
@[go_sem] theorem Cn.at2 (c : Cn) : c.cs.getD 2 (.v undef) = str c.s := rfl
def cmpC (x y : Cn) : Int := if x.b = y.b then orI [cmpI x.n y.n, cmpS x.s y.s] else if x.b = true then -1 else 1
section
variable {σ : St}
theorem cmpC_at (x y : Cn) : AT Tryz.prog 83 [.agg x.cs, .agg y.cs] σ fun r σ' => r = int (cmpC x y) ∧ σ' = σ := by
  refine AT.of_body Tryz.func83 rfl (by decide) (by kernel_rfl) (by kernel_rfl) (Nat.le_of_ble_eq_true rfl) ?_
  simp only [go_sem]
  refine aNew_intro fun p hp hpn => ?_
  simp only [go_sem]
  refine aNew_intro fun q hq hqn => ?_
  have hpq : p ≠ q := hqn p _ set_same
  have h1 : ((σ.set p (.cells x.cs)).set q (.cells y.cs)) p = some (.cells x.cs) := by rw [set_ne hpq]; exact set_same
  have h2 : ((σ.set p (.cells x.cs)).set q (.cells y.cs)) q = some (.cells y.cs) := set_same
  have hd : ∀ r, View ((σ.set p (.cells x.cs)).set q (.cells y.cs)) r σ r := fun r => view_drop fun z o hz => set_sub hq (fun _ _ h => h) z o (set_sub hp (fun _ _ h => h) z o hz)
  revert h1 h2 hd
  generalize (σ.set p (.cells x.cs)).set q (.cells y.cs) = σ1
  intro h1 h2 hd
  by_cases hb : x.b = y.b
  · have e : decide (¬ x.b = y.b) = false := decide_eq_false fun h => h hb
    simp only [go_sem, h1, h2, e]
    refine aDraw_plan [.rd 0 false, .rd 1 true, .rd 2 false, .rd 3 true, .rd 5 false, .rd 6 true, .rd 7 false, .rd 8 true, .ef 4 [6, 8], .ef 9 [], .rd 10 false, .ef 11 [], .rd 12 false] (by kernel_rfl) (by kernel_rfl) (by kernel_rfl) ?_
    simp only [go_sem, h1, h2]
    refine (cmpI_at x.n y.n).mono ?_
    rintro _ _ ⟨rfl, rfl⟩
    simp only [go_sem, h1, h2]
    refine (cmpS_at x.s y.s).mono ?_
    rintro _ _ ⟨rfl, rfl⟩
    simp only [go_sem]
    refine (or_at [cmpI x.n y.n, cmpS x.s y.s] (by simp)).mono ?_
    rintro _ _ ⟨rfl, rfl⟩
    simp only [go_sem]
    exact aRet_view (r := int _) rfl _ σ (hd _) ⟨by unfold cmpC; rw [if_pos hb], rfl⟩
  · have e : decide (¬ x.b = y.b) = true := decide_eq_true hb
    simp only [go_sem, h1, h2, e]
    refine aIf_bool (fun g => ?_) (fun g => ?_)
    · simp only [go_sem]
      exact aRet_view (r := int (-1)) rfl _ σ (hd _) ⟨by unfold cmpC; rw [if_neg hb, if_pos g], rfl⟩
    · simp only [go_sem]
      exact aRet_view (r := int 1) rfl _ σ (hd _) ⟨by unfold cmpC; rw [if_neg hb, if_neg (by rw [g]; decide)], rfl⟩
end
end Go.Proofs.YthdfpankebjleaaGreat

/-
  Lists of constants held against each other; facts.
  Conditions: none.
-/
namespace Go.Proofs.YthdfpankebjleaaGreat
open Go Go.Av

def cnC (l : List Cn) : List (List AV) := l.map Cn.cs
@[go_sem] theorem cnC_len (l : List Cn) : (cnC l).length = l.length := by simp [cnC]
theorem cnC_get {l : List Cn} {i : Nat} (h : i < l.length) : (cnC l).getD i [] = l[i].cs := by simp [cnC, List.getD_eq_getElem?_getD, h]
/-- The first difference; the shorter one ahead. -/
def cmpL {α : Type} (c : α → α → Int) : List α → List α → Int
  | [], [] => 0
  | [], _ :: _ => -1
  | _ :: _, [] => 1
  | x :: l, y :: k => if c x y = 0 then cmpL c l k else c x y
section
variable {σ : St}
theorem cmpCs_at (l k : List Cn) (hl : l.length ≤ 1000000000) (hk : k.length ≤ 1000000000) : AT Tryz.prog 82 [.sl 3 (cnC l), .sl 3 (cnC k), fnv 83] σ fun r σ' => r = int (cmpL cmpC l k) ∧ σ' = σ := by
  refine AT.of_body Tryz.func82 rfl (by decide) (by kernel_rfl) (by kernel_rfl) (Nat.le_of_ble_eq_true rfl) ?_
  simp only [go_sem, r_block]
  refine ⟨fun m fr σ' => ∃ i : Nat, m = l.length - i ∧ i ≤ l.length ∧ i ≤ k.length ∧ (∀ x o, σ x = some o → σ' x = some o) ∧ cmpL cmpC (l.drop i) (k.drop i) = cmpL cmpC l k ∧ fr 0 = .sl 3 (cnC l) ∧ fr 1 = .sl 3 (cnC k) ∧ fr 2 = fnv 83 ∧ fr 11 = .sl 3 (cnC l) ∧ fr 12 = int l.length ∧ fr 13 = int i, ⟨_, 0, rfl, by omega, by omega, fun _ _ h => h, rfl, rfl, rfl, rfl, rfl, rfl, rfl⟩, ?_⟩
  rintro m fr σ1 ⟨i, rfl, h1, h2, hs, hI, f0, f1, f2, f11, f12, f13⟩
  simp only [go_sem, f12, f13]
  refine aIf_by (fun hlt => ?_) (fun hlt => ?_)
  · have hil : i < l.length := by omega
    have e1 : l.drop i = l[i] :: l.drop (i + 1) := List.drop_eq_getElem_cons hil
    rw [e1] at hI
    simp only [go_sem, r_block, f11, f13, cnC_get hil]
    refine ⟨by omega, aNew_intro fun p hp hpn => ?_⟩
    simp only [go_sem, f1, f11, f13]
    refine aIf_by (fun hge => ?_) (fun hge => ?_)
    · have e2 : k.drop i = [] := List.drop_of_length_le (by omega)
      rw [e2] at hI
      simp only [go_sem]
      rw [← hI]
      exact aRet_view (r := int 1) rfl _ σ (view_drop fun x o hx => by rw [set_ne (hpn x o (hs x o hx))]; exact hs x o hx) ⟨rfl, rfl⟩
    · have hik : i < k.length := by omega
      have e2 : k.drop i = k[i] :: k.drop (i + 1) := List.drop_eq_getElem_cons hik
      rw [e2] at hI
      have e3 : cmpL cmpC (l[i] :: l.drop (i + 1)) (k[i] :: k.drop (i + 1)) = if cmpC l[i] k[i] = 0 then cmpL cmpC (l.drop (i + 1)) (k.drop (i + 1)) else cmpC l[i] k[i] := rfl
      rw [e3] at hI
      simp only [go_sem, f1, f13, cnC_get hik, set_same]
      refine ⟨by omega, aNew_intro fun q hq hqn => ?_⟩
      have hpq : p ≠ q := hqn p _ set_same
      have k1 : ((σ1.set p (.cells l[i].cs)).set q (.cells k[i].cs)) p = some (.cells l[i].cs) := by rw [set_ne hpq]; exact set_same
      have k2 : ((σ1.set p (.cells l[i].cs)).set q (.cells k[i].cs)) q = some (.cells k[i].cs) := set_same
      have k3 : ∀ x o, σ x = some o → ((σ1.set p (.cells l[i].cs)).set q (.cells k[i].cs)) x = some o := fun x o hx => by
        have hq0 : x ≠ q := hqn x o (set_sub hp (fun _ _ h => h) x o (hs x o hx))
        rw [set_ne hq0, set_ne (hpn x o (hs x o hx))]; exact hs x o hx
      simp only [go_sem, set_same]
      revert k1 k2 k3
      generalize (σ1.set p (.cells l[i].cs)).set q (.cells k[i].cs) = σ2
      intro k1 k2 k3
      simp only [go_sem, k1, k2, f2]
      refine (cmpC_at l[i] k[i]).mono ?_
      rintro _ _ ⟨rfl, rfl⟩
      simp only [go_sem]
      refine aIf_by (fun h0 => ?_) (fun h0 => ?_)
      · rw [if_pos h0] at hI
        simp only [go_sem, f0, f1, f2, f11, f12, f13, next64 (show i < 9223372036854775807 by omega)]
        exact ⟨l.length - (i + 1), by omega, i + 1, rfl, by omega, by omega, k3, hI, rfl⟩
      · rw [if_neg h0] at hI
        simp only [go_sem]
        rw [← hI]
        exact aRet_view (r := int _) rfl _ σ (view_drop k3) ⟨rfl, rfl⟩
  · have e1 : l.drop i = [] := List.drop_of_length_le (by omega)
    rw [e1] at hI
    simp only [go_sem, f0, f1]
    refine aIf_by (fun h0 => ?_) (fun h0 => ?_)
    · obtain ⟨y, t, e2⟩ : ∃ y t, k.drop i = y :: t := ⟨k[i]'(by omega), k.drop (i + 1), List.drop_eq_getElem_cons (by omega)⟩
      rw [e2] at hI
      simp only [go_sem]
      rw [← hI]
      exact aRet_view (r := int (-1)) rfl _ σ (view_drop hs) ⟨rfl, rfl⟩
    · have e2 : k.drop i = [] := List.drop_of_length_le (by omega)
      rw [e2] at hI
      simp only [go_sem]
      rw [← hI]
      exact aRet_view (r := int 0) rfl _ σ (view_drop hs) ⟨rfl, rfl⟩
end
end Go.Proofs.YthdfpankebjleaaGreat

/-
  Facts held against each other.
  Conditions: none.
-/
namespace Go.Proofs.YthdfpankebjleaaGreat
open Go Go.Av

/-- A fact: where, by whom, its name, its arguments. -/
structure Fa where
  at' : ByteArray
  by' : ByteArray
  pr : ByteArray
  ar : List Cn
def Fa.cs (f : Fa) : List AV := [str f.at', str f.by', str f.pr, .sl 3 (cnC f.ar)]
@[go_sem] theorem Fa.len (f : Fa) : f.cs.length = 4 := rfl
@[go_sem] theorem Fa.one (f : Fa) : f.cs.all AV.one = true := rfl
@[go_sem] theorem Fa.take (f : Fa) : f.cs.take 4 = f.cs := rfl
@[go_sem] theorem Fa.at0 (f : Fa) : f.cs.getD 0 (.v undef) = str f.at' := rfl
@[go_sem] theorem Fa.at1 (f : Fa) : f.cs.getD 1 (.v undef) = str f.by' := rfl
@[go_sem] theorem Fa.at2 (f : Fa) : f.cs.getD 2 (.v undef) = str f.pr := rfl
@[go_sem] theorem Fa.at3 (f : Fa) : f.cs.getD 3 (.v undef) = .sl 3 (cnC f.ar) := rfl
def cmpF (x y : Fa) : Int := orI [cmpS x.at' y.at', cmpS x.by' y.by', cmpS x.pr y.pr, cmpL cmpC x.ar y.ar]
section
variable {σ : St}
theorem cmpF_at (x y : Fa) (hx : x.ar.length ≤ 1000000000) (hy : y.ar.length ≤ 1000000000) : AT Tryz.prog 41 [.agg x.cs, .agg y.cs] σ fun r σ' => r = int (cmpF x y) ∧ σ' = σ := by
  refine AT.of_body Tryz.func41 rfl (by decide) (by kernel_rfl) (by kernel_rfl) (Nat.le_of_ble_eq_true rfl) ?_
  simp only [go_sem]
  refine aNew_intro fun p hp hpn => ?_
  simp only [go_sem]
  refine aNew_intro fun q hq hqn => ?_
  have hpq : p ≠ q := hqn p _ set_same
  have h1 : ((σ.set p (.cells x.cs)).set q (.cells y.cs)) p = some (.cells x.cs) := by rw [set_ne hpq]; exact set_same
  have h2 : ((σ.set p (.cells x.cs)).set q (.cells y.cs)) q = some (.cells y.cs) := set_same
  have hd : ∀ r, View ((σ.set p (.cells x.cs)).set q (.cells y.cs)) r σ r := fun r => view_drop fun z o hz => set_sub hq (fun _ _ h => h) z o (set_sub hp (fun _ _ h => h) z o hz)
  revert h1 h2 hd
  generalize (σ.set p (.cells x.cs)).set q (.cells y.cs) = σ1
  intro h1 h2 hd
  simp only [go_sem]
  refine aDraw_plan [.rd 0 false, .rd 1 true, .rd 2 false, .rd 3 true, .rd 5 false, .rd 6 true, .rd 7 false, .rd 8 true, .rd 10 false, .rd 11 true, .rd 12 false, .rd 13 true, .rd 15 false, .rd 16 true, .rd 17 false, .rd 18 true, .ef 4 [6, 8, 11, 13, 16, 18], .ef 9 [11, 13, 16, 18], .ef 14 [16, 18], .ef 19 [], .rd 20 false, .ef 21 [], .rd 22 false] (by kernel_rfl) (by kernel_rfl) (by kernel_rfl) ?_
  simp only [go_sem, h1, h2]
  refine (cmpS_at x.at' y.at').mono ?_
  rintro _ _ ⟨rfl, rfl⟩
  simp only [go_sem, h1, h2]
  refine (cmpS_at x.by' y.by').mono ?_
  rintro _ _ ⟨rfl, rfl⟩
  simp only [go_sem, h1, h2]
  refine (cmpS_at x.pr y.pr).mono ?_
  rintro _ _ ⟨rfl, rfl⟩
  simp only [go_sem, h1, h2]
  refine (cmpCs_at x.ar y.ar hx hy).mono ?_
  rintro _ _ ⟨rfl, rfl⟩
  simp only [go_sem]
  refine (or_at [cmpS x.at' y.at', cmpS x.by' y.by', cmpS x.pr y.pr, cmpL cmpC x.ar y.ar] (by simp)).mono ?_
  rintro _ _ ⟨rfl, rfl⟩
  simp only [go_sem]
  exact aRet_view (r := int _) rfl _ σ (hd _) ⟨rfl, rfl⟩
end
end Go.Proofs.YthdfpankebjleaaGreat

/-
  Comparisons that are whole orders: texts, numbers, constants, lists of them, facts.
  Conditions: none.
-/
namespace Go.Proofs.YthdfpankebjleaaGreat
open Go Go.Av

/-- A comparison that orders all, by its sign; 0 only of a thing and itself. -/
structure Ord3 {α : Type} (c : α → α → Int) : Prop where
  zero : ∀ x y, c x y = 0 ↔ x = y
  anti : ∀ x y, c x y < 0 ↔ 0 < c y x
  trans : ∀ x y z, c x y < 0 → c y z < 0 → c x z < 0

theorem Ord3.self {α : Type} {c : α → α → Int} (h : Ord3 c) (x : α) : c x x = 0 := (h.zero x x).2 rfl
theorem Ord3.swo {α : Type} {c : α → α → Int} (h : Ord3 c) : Go.Sort.SWO (ltc c) where
  irrefl x := by unfold ltc; rw [h.self]; rfl
  trans x y z h1 h2 := by
    unfold ltc at *
    simp only [decide_eq_true_eq] at *
    exact h.trans x y z h1 h2
  ntrans x y z h1 h2 := by
    unfold ltc at *
    simp only [decide_eq_false_iff_not] at *
    intro h3
    by_cases e1 : c x y = 0
    · rw [(h.zero x y).1 e1] at h3; exact h2 h3
    · by_cases e2 : c y z = 0
      · rw [← (h.zero y z).1 e2] at h3; exact h1 h3
      · have a1 : c y x < 0 := (h.anti y x).2 (by omega)
        have a2 : c z y < 0 := (h.anti z y).2 (by omega)
        have a3 := h.trans z y x a2 a1
        have := (h.anti z x).1 a3
        omega
theorem Ord3.of_iff {α : Type} {c c' : α → α → Int} (h : Ord3 c) (hz : ∀ x y, c' x y = 0 ↔ c x y = 0) (hl : ∀ x y, c' x y < 0 ↔ c x y < 0) : Ord3 c' where
  zero x y := (hz x y).trans (h.zero x y)
  anti x y := by
    have h1 := hl x y
    have h2 := hl y x
    have h3 := hz y x
    have h4 := h.anti x y
    constructor <;> intro <;> omega
  trans x y z h1 h2 := (hl x z).2 (h.trans x y z ((hl x y).1 h1) ((hl y z).1 h2))

theorem cmpI_ord : Ord3 cmpI where
  zero x y := by unfold cmpI; repeat' split
                 all_goals omega
  anti x y := by unfold cmpI; repeat' split
                 all_goals omega
  trans x y z := by unfold cmpI; repeat' split
                    all_goals omega

theorem bl_irrefl : ∀ x : List UInt8, Op.bytesLess x x = false
  | [] => rfl
  | a :: x => by
    unfold Op.bytesLess
    rw [bl_irrefl x]
    simp
theorem bl_trans : ∀ x y z : List UInt8, Op.bytesLess x y = true → Op.bytesLess y z = true → Op.bytesLess x z = true
  | _, [], _, h, _ => by unfold Op.bytesLess at h; cases h
  | _, _ :: _, [], _, h => by unfold Op.bytesLess at h; cases h
  | [], _ :: _, _ :: _, _, _ => by unfold Op.bytesLess; rfl
  | a :: x, b :: y, c :: z, h1, h2 => by
    unfold Op.bytesLess at *
    simp only [Bool.or_eq_true, Bool.and_eq_true, decide_eq_true_eq, beq_iff_eq] at *
    rcases h1 with h1 | ⟨rfl, h1⟩
    · rcases h2 with h2 | ⟨rfl, h2⟩
      · exact .inl (UInt8.lt_trans h1 h2)
      · exact .inl h1
    · rcases h2 with h2 | ⟨rfl, h2⟩
      · exact .inl h2
      · exact .inr ⟨rfl, bl_trans x y z h1 h2⟩
theorem bl_total : ∀ x y : List UInt8, x = y ∨ Op.bytesLess x y = true ∨ Op.bytesLess y x = true
  | [], [] => .inl rfl
  | [], _ :: _ => .inr (.inl (by unfold Op.bytesLess; rfl))
  | _ :: _, [] => .inr (.inr (by unfold Op.bytesLess; rfl))
  | a :: x, b :: y => by
    unfold Op.bytesLess
    simp only [Bool.or_eq_true, Bool.and_eq_true, decide_eq_true_eq, beq_iff_eq]
    rcases UInt8.lt_or_lt_of_ne (a := a) (b := b) |> (fun f => Classical.em (a = b) |>.elim (fun h => Or.inl h) fun h => Or.inr (f h)) with h | h
    · subst h
      rcases bl_total x y with h | h | h
      · exact .inl (by rw [h])
      · exact .inr (.inl (.inr ⟨rfl, h⟩))
      · exact .inr (.inr (.inr ⟨rfl, h⟩))
    · rcases h with h | h
      · exact .inr (.inl (.inl h))
      · exact .inr (.inr (.inl h))
theorem toList_inj {x y : ByteArray} (h : x.toList = y.toList) : x = y := by
  have := toList_beq x y
  rw [h, beq_self_eq_true] at this
  exact of_decide_eq_true this.symm
theorem cmpS_lt {x y : ByteArray} : cmpS x y < 0 ↔ Op.bytesLess x.toList y.toList = true := by
  unfold cmpS
  split
  · rename_i h; simp [h]
  · rename_i h; split <;> simp [h]
theorem cmpS_zero {x y : ByteArray} : cmpS x y = 0 ↔ x = y := by
  unfold cmpS
  split
  · rename_i h
    constructor
    · intro h'; omega
    · rintro rfl; rw [bl_irrefl] at h; cases h
  · split
    · rename_i h; simp [h]
    · rename_i h; simp [h]
theorem cmpS_ord : Ord3 cmpS where
  zero x y := cmpS_zero
  anti x y := by
    rw [cmpS_lt]
    constructor
    · intro h
      have h1 : ¬ cmpS y x < 0 := fun h' => by
        have := bl_trans _ _ _ h (cmpS_lt.1 h')
        rw [bl_irrefl] at this; cases this
      have h2 : cmpS y x ≠ 0 := fun h' => by
        rw [cmpS_zero.1 h', bl_irrefl] at h; cases h
      omega
    · intro h
      rcases bl_total x.toList y.toList with h' | h' | h'
      · rw [toList_inj h', cmpS_zero.2 rfl] at h; omega
      · exact h'
      · have := cmpS_lt.2 h'; omega
  trans x y z h1 h2 := cmpS_lt.2 (bl_trans _ _ _ (cmpS_lt.1 h1) (cmpS_lt.1 h2))

/-- One comparison, and where it says the same another one. -/
def lex2 {α : Type} (c d : α → α → Int) (x y : α) : Int := if c x y = 0 then d x y else c x y
/-- Less by c or the same by c, and so on: c a comparison by a part. -/
structure Pre3 {α : Type} (c : α → α → Int) : Prop where
  self : ∀ x, c x x = 0
  anti : ∀ x y, c x y < 0 ↔ 0 < c y x
  trans : ∀ x y z, c x y ≤ 0 → c y z ≤ 0 → c x z ≤ 0 ∧ (c x z = 0 → c x y = 0 ∧ c y z = 0)
theorem Ord3.pre {α β : Type} {c : β → β → Int} (h : Ord3 c) (f : α → β) : Pre3 fun x y => c (f x) (f y) where
  self x := h.self _
  anti x y := h.anti _ _
  trans x y z h1 h2 := by
    by_cases e1 : c (f x) (f y) = 0
    · rw [(h.zero _ _).1 e1]
      exact ⟨h2, fun h3 => ⟨h.self _, h3⟩⟩
    · by_cases e2 : c (f y) (f z) = 0
      · rw [← (h.zero _ _).1 e2]
        exact ⟨h1, fun h3 => ⟨h3, h.self _⟩⟩
      · have := h.trans (f x) (f y) (f z) (by omega) (by omega)
        exact ⟨by omega, fun h3 => by omega⟩
theorem Pre3.zero_symm {α : Type} {c : α → α → Int} (h : Pre3 c) {x y : α} (h0 : c x y = 0) : c y x = 0 := by
  have h1 := h.anti x y
  have h2 := h.anti y x
  omega
theorem Pre3.lex {α : Type} {c d : α → α → Int} (h : Pre3 c) (g : Pre3 d) : Pre3 (lex2 c d) where
  self x := by unfold lex2; rw [if_pos (h.self x), g.self]
  anti x y := by
    unfold lex2
    have h1 := h.anti x y
    have h2 := h.anti y x
    have h3 := g.anti x y
    split <;> split <;> omega
  trans x y z := by
    unfold lex2
    intro h1 h2
    by_cases e1 : c x y = 0
    · rw [if_pos e1] at h1 ⊢
      by_cases e2 : c y z = 0
      · rw [if_pos e2] at h2 ⊢
        obtain ⟨t1, t2⟩ := h.trans x y z (by omega) (by omega)
        have t3 := h.trans z y x (by have := h.zero_symm e2; omega) (by have := h.zero_symm e1; omega)
        have t4 := h.anti x z
        have t5 := h.anti z x
        have e3 : c x z = 0 := by omega
        rw [if_pos e3]
        exact g.trans x y z h1 h2
      · rw [if_neg e2] at h2 ⊢
        obtain ⟨t1, t2⟩ := h.trans x y z (by omega) (by omega)
        have e3 : c x z ≠ 0 := fun e => e2 (t2 e).2
        rw [if_neg e3]
        exact ⟨t1, fun e => absurd e e3⟩
    · rw [if_neg e1] at h1 ⊢
      have h2' : c y z ≤ 0 := by split at h2 <;> omega
      obtain ⟨t1, t2⟩ := h.trans x y z (by omega) h2'
      have e3 : c x z ≠ 0 := fun e => e1 (t2 e).1
      rw [if_neg e3]
      exact ⟨t1, fun e => absurd e e3⟩
theorem Pre3.ord {α : Type} {c : α → α → Int} (h : Pre3 c) (h0 : ∀ x y, c x y = 0 → x = y) : Ord3 c where
  zero x y := ⟨h0 x y, fun e => by rw [e]; exact h.self y⟩
  anti := h.anti
  trans x y z h1 h2 := by
    obtain ⟨t1, t2⟩ := h.trans x y z (by omega) (by omega)
    have : c x z ≠ 0 := fun e => by have := (t2 e).1; omega
    omega

/-- Lists: the first difference; the shorter one ahead. -/
theorem cmpL_ord {α : Type} {c : α → α → Int} (h : Ord3 c) : Ord3 (cmpL c) := by
  have e : ∀ (x y : α) (l k : List α), cmpL c (x :: l) (y :: k) = if c x y = 0 then cmpL c l k else c x y := fun _ _ _ _ => rfl
  have hz : ∀ l k : List α, cmpL c l k = 0 ↔ l = k := by
    intro l
    induction l with
    | nil => intro k; cases k <;> simp [cmpL]
    | cons x l ih =>
      intro k
      cases k with
      | nil => simp [cmpL]
      | cons y k =>
        rw [e]
        by_cases h0 : c x y = 0
        · rw [if_pos h0, ih, (h.zero x y).1 h0]; simp
        · rw [if_neg h0]
          exact ⟨fun h' => absurd h' h0, fun h' => absurd ((h.zero x y).2 (List.cons.inj h').1) h0⟩
  have ha : ∀ l k : List α, cmpL c l k < 0 ↔ 0 < cmpL c k l := by
    intro l
    induction l with
    | nil => intro k; cases k <;> simp [cmpL]
    | cons x l ih =>
      intro k
      cases k with
      | nil => simp [cmpL]
      | cons y k =>
        rw [e, e]
        have h1 := h.anti x y
        have h2 := h.anti y x
        have h3 := ih k
        split <;> split <;> omega
  refine ⟨hz, ha, ?_⟩
  intro l
  induction l with
  | nil =>
    intro k m h1 h2
    cases k with
    | nil => simp [cmpL] at h1
    | cons y k =>
      cases m with
      | nil => simp [cmpL] at h2
      | cons z m => simp [cmpL]
  | cons x l ih =>
    intro k m h1 h2
    cases k with
    | nil => simp [cmpL] at h1
    | cons y k =>
      cases m with
      | nil => simp [cmpL] at h2
      | cons z m =>
        rw [e] at *
        by_cases e1 : c x y = 0
        · rw [if_pos e1] at h1
          rw [(h.zero x y).1 e1]
          by_cases e2 : c y z = 0
          · rw [if_pos e2] at h2 ⊢
            exact ih k m h1 h2
          · rw [if_neg e2] at h2 ⊢
            exact h2
        · rw [if_neg e1] at h1
          by_cases e2 : c y z = 0
          · rw [← (h.zero y z).1 e2, if_neg e1]
            exact h1
          · rw [if_neg e2] at h2
            have := h.trans x y z h1 h2
            rw [if_neg (by omega)]
            exact this

theorem orI2 (a b : Int) : orI [a, b] = if a = 0 then b else a := by
  simp only [orI]
  split
  · split
    · rename_i h; exact h.symm
    · rfl
  · rfl
def cmpN (x y : Cn) : Int := if x.b = y.b then 0 else if x.b = true then -1 else 1
theorem cmpN_pre : Pre3 cmpN := by
  refine ⟨fun x => by simp [cmpN], fun x y => ?_, fun x y z => ?_⟩
  · unfold cmpN; cases x.b <;> cases y.b <;> simp
  · unfold cmpN; cases x.b <;> cases y.b <;> cases z.b <;> simp
theorem cmpN_zero {x y : Cn} : cmpN x y = 0 ↔ x.b = y.b := by
  unfold cmpN; cases x.b <;> cases y.b <;> simp
theorem cmpC_eq (x y : Cn) : cmpC x y = lex2 cmpN (lex2 (fun x y : Cn => cmpI x.n y.n) fun x y : Cn => cmpS x.s y.s) x y := by
  unfold cmpC lex2
  rw [orI2]
  by_cases hb : x.b = y.b
  · rw [if_pos hb, if_pos (cmpN_zero.2 hb)]
  · rw [if_neg hb, if_neg (fun h => hb (cmpN_zero.1 h))]
    unfold cmpN
    rw [if_neg hb]
theorem lex2_zero {α : Type} {c d : α → α → Int} {x y : α} (h : lex2 c d x y = 0) : c x y = 0 ∧ d x y = 0 := by
  unfold lex2 at h
  split at h
  · rename_i h0; exact ⟨h0, h⟩
  · rename_i h0; exact absurd h h0
theorem cmpC_ord : Ord3 cmpC := by
  have p := cmpN_pre.lex ((cmpI_ord.pre Cn.n).lex (cmpS_ord.pre Cn.s))
  rw [show cmpC = _ from funext fun x => funext fun y => cmpC_eq x y]
  refine p.ord fun x y h => ?_
  obtain ⟨h1, h⟩ := lex2_zero h
  obtain ⟨h2, h3⟩ := lex2_zero h
  cases x; cases y
  have e1 := cmpN_zero.1 h1
  have e2 := (cmpI_ord.zero _ _).1 h2
  have e3 := (cmpS_ord.zero _ _).1 h3
  simp only at e1 e2 e3
  rw [e1, e2, e3]
theorem cmpF_eq (x y : Fa) : cmpF x y = lex2 (fun x y : Fa => cmpS x.at' y.at') (lex2 (fun x y : Fa => cmpS x.by' y.by') (lex2 (fun x y : Fa => cmpS x.pr y.pr) fun x y : Fa => cmpL cmpC x.ar y.ar)) x y := by
  unfold cmpF lex2
  simp only [orI]
  split
  · split
    · split
      · split
        · rename_i h; exact h.symm
        · rfl
      · rfl
    · rfl
  · rfl
theorem cmpF_ord : Ord3 cmpF := by
  have p := (cmpS_ord.pre Fa.at').lex ((cmpS_ord.pre Fa.by').lex ((cmpS_ord.pre Fa.pr).lex ((cmpL_ord cmpC_ord).pre Fa.ar)))
  rw [show cmpF = _ from funext fun x => funext fun y => cmpF_eq x y]
  refine p.ord fun x y h => ?_
  obtain ⟨h1, h⟩ := lex2_zero h
  obtain ⟨h2, h⟩ := lex2_zero h
  obtain ⟨h3, h4⟩ := lex2_zero h
  cases x; cases y
  have e1 := (cmpS_ord.zero _ _).1 h1
  have e2 := (cmpS_ord.zero _ _).1 h2
  have e3 := (cmpS_ord.zero _ _).1 h3
  have e4 := ((cmpL_ord cmpC_ord).zero _ _).1 h4
  simp only at e1 e2 e3 e4
  rw [e1, e2, e3, e4]
instance decFa : DecidableEq Fa := fun x y => decidable_of_iff (cmpF x y = 0) (cmpF_ord.zero x y)
/-- Lists of facts. -/
def cmpB : List Fa → List Fa → Int := cmpL cmpF
theorem cmpB_ord : Ord3 cmpB := cmpL_ord cmpF_ord
end Go.Proofs.YthdfpankebjleaaGreat

/-
  Bindings; a term's value; terms made constants; a literal made a fact; in which order makes no difference.
  Conditions: none.
-/
namespace Go.Proofs.YthdfpankebjleaaGreat
open Go Go.Av

def Tm.val (t : Tm) : Cn := ⟨t.b, t.n, t.s⟩
/-- A binding: a variable, and its constant. -/
structure Bi where
  v : ByteArray
  c : Cn
deriving DecidableEq
def Bi.cs (x : Bi) : List AV := [str x.v, boo x.c.b, int x.c.n, str x.c.s]
@[go_sem] theorem Bi.len (x : Bi) : x.cs.length = 4 := rfl
@[go_sem] theorem Bi.one (x : Bi) : x.cs.all AV.one = true := rfl
@[go_sem] theorem Bi.take (x : Bi) : x.cs.take 4 = x.cs := rfl
@[go_sem] theorem Bi.at0 (x : Bi) : x.cs.getD 0 (.v undef) = str x.v := rfl
def biC (l : List Bi) : List (List AV) := l.map Bi.cs
@[go_sem] theorem biC_len (l : List Bi) : (biC l).length = l.length := by simp [biC]
theorem biC_get {l : List Bi} {i : Nat} (h : i < l.length) : (biC l).getD i [] = l[i].cs := by simp [biC, List.getD_eq_getElem?_getD, h]

def look : List Bi → ByteArray → Option Cn
  | [], _ => none
  | x :: l, v => if x.v = v then some x.c else look l v
def valF (t : Tm) (env : List Bi) : Option Cn := if t = .zero then none else if t.v = emp then some t.val else look env t.v
def uniF (t : Tm) (c : Cn) (env : List Bi) : Option (List Bi) :=
  match valF t env with
  | some x => if x = c then some env else none
  | none => if t.v = emp then none else some (env ++ [⟨t.v, c⟩])
def nmC (s : ByteArray) : Cn := ⟨false, 0, s⟩
def uniS : List (Tm × Cn) → List Bi → Option (List Bi)
  | [], e => some e
  | p :: l, e => (uniF p.1 p.2 e).bind (uniS l)
def orT (a b : Tm) : Tm := if a = .zero then b else a
def fits (l : Li) (f : Fa) : Bool := decide (l.nm = f.pr) && decide (l.ar.length = f.ar.length) && (decide (l.by' ≠ .zero) || decide (f.by' = f.at'))
def eqs (ho : Tm) (l : Li) (f : Fa) : List (Tm × Cn) := (orT l.at' ho, nmC f.at') :: ((if l.by' = .zero then [] else [(l.by', nmC f.by')]) ++ l.ar.zip f.ar)
/-- What a literal, made a fact, binds. -/
def litF (ho : Tm) (l : Li) (f : Fa) (env : List Bi) : Option (List Bi) := if fits l f = true then uniS (eqs ho l f) env else none

/-! ### By all values of all variables -/
def Ext (ρ : ByteArray → Cn) (env : List Bi) : Prop := ∀ v c, look env v = some c → ρ v = c
def Sat (ρ : ByteArray → Cn) (p : Tm × Cn) : Prop := p.1 ≠ .zero ∧ if p.1.v = emp then p.1.val = p.2 else ρ p.1.v = p.2
def Sats (ρ : ByteArray → Cn) (l : List (Tm × Cn)) : Prop := ∀ p ∈ l, Sat ρ p
theorem ext_nil {ρ : ByteArray → Cn} : Ext ρ [] := fun v c h => by cases h
theorem look_app (v : ByteArray) (y : Bi) : ∀ env : List Bi, look (env ++ [y]) v = match look env v with
    | some c => some c
    | none => if y.v = v then some y.c else none
  | [] => rfl
  | x :: l => by
    rw [List.cons_append]
    unfold look
    split
    · rfl
    · exact look_app v y l
theorem ext_ex (env : List Bi) : ∃ ρ, Ext ρ env := ⟨fun v => (look env v).getD ⟨false, 0, emp⟩, fun v c h => by simp [h]⟩
theorem look_iff {e : List Bi} {v : ByteArray} {c : Cn} : look e v = some c ↔ ∀ ρ, Ext ρ e → ρ v = c := by
  constructor
  · exact fun h ρ hρ => hρ v c h
  · intro h
    cases h' : look e v with
    | some d =>
      obtain ⟨ρ, hρ⟩ := ext_ex e
      rw [← h ρ hρ, hρ v d h']
    | none =>
      have h1 := h (fun w => (look e w).getD ⟨!c.b, 0, emp⟩) fun w d hd => by simp [hd]
      rw [h'] at h1
      have h2 := congrArg Cn.b h1
      simp at h2
def Eqv (e e' : List Bi) : Prop := ∀ v, look e v = look e' v
theorem eqv_of {e e' : List Bi} (h : ∀ ρ, Ext ρ e ↔ Ext ρ e') : Eqv e e' := fun v => by
  cases h1 : look e v with
  | some c => exact (look_iff.2 fun ρ hρ => look_iff.1 h1 ρ ((h ρ).2 hρ)).symm
  | none =>
    cases h2 : look e' v with
    | none => rfl
    | some c =>
      have := look_iff.2 fun ρ hρ => look_iff.1 h2 ρ ((h ρ).1 hρ)
      rw [h1] at this
      exact this
theorem Eqv.ext {e e' : List Bi} (h : Eqv e e') (ρ : ByteArray → Cn) : Ext ρ e ↔ Ext ρ e' := by
  unfold Ext
  constructor <;> intro h' v c hv
  · exact h' v c (by rw [h v]; exact hv)
  · exact h' v c (by rw [← h v]; exact hv)
theorem Eqv.refl (e : List Bi) : Eqv e e := fun _ => rfl

theorem uni_some {t : Tm} {c : Cn} {env e : List Bi} (h : uniF t c env = some e) (ρ : ByteArray → Cn) : Ext ρ e ↔ Ext ρ env ∧ Sat ρ (t, c) := by
  unfold uniF at h
  cases hv : valF t env with
  | some x =>
    rw [hv] at h
    simp only at h
    split at h
    · rename_i hx
      subst hx
      injection h with h
      subst h
      unfold valF at hv
      split at hv
      · cases hv
      · rename_i h0
        refine ⟨fun hρ => ⟨hρ, h0, ?_⟩, fun h => h.1⟩
        split at hv
        · rename_i h1
          injection hv with hv
          rw [if_pos h1]; exact hv
        · rename_i h1
          rw [if_neg h1]; exact hρ _ _ hv
    · cases h
  | none =>
    rw [hv] at h
    simp only at h
    split at h
    · cases h
    · rename_i h1
      injection h with h
      subst h
      have h0 : t ≠ .zero := fun e => h1 (by rw [e]; rfl)
      unfold valF at hv
      rw [if_neg h0, if_neg h1] at hv
      have hS : Sat ρ (t, c) ↔ ρ t.v = c := by
        unfold Sat
        simp only
        rw [if_neg h1]
        exact ⟨fun h => h.2, fun h => ⟨h0, h⟩⟩
      rw [hS]
      constructor
      · intro hρ
        refine ⟨fun v d hd => hρ v d (by rw [look_app, hd]), hρ _ _ ?_⟩
        rw [look_app, hv]
        simp
      · rintro ⟨hρ, hc⟩ v d hd
        rw [look_app] at hd
        cases hl : look env v with
        | some x =>
          rw [hl] at hd
          exact hρ v d (by rw [hl]; exact hd)
        | none =>
          rw [hl] at hd
          simp only at hd
          split at hd
          · rename_i e
            injection hd with hd
            rw [← e, ← hd]; exact hc
          · cases hd
theorem uni_none {t : Tm} {c : Cn} {env : List Bi} (h : uniF t c env = none) {ρ : ByteArray → Cn} (hρ : Ext ρ env) : ¬ Sat ρ (t, c) := by
  rintro ⟨h0, h1⟩
  simp only at h0 h1
  unfold uniF valF at h
  rw [if_neg h0] at h
  split at h1
  · rename_i he
    rw [if_pos he] at h
    simp only at h
    rw [if_pos h1] at h
    cases h
  · rename_i he
    rw [if_neg he] at h
    cases hl : look env t.v with
    | some x =>
      rw [hl] at h
      simp only at h
      rw [if_pos ((hρ _ _ hl).symm.trans h1)] at h
      cases h
    | none =>
      rw [hl] at h
      simp only at h
      rw [if_neg he] at h
      cases h
theorem unis_some {l : List (Tm × Cn)} : ∀ {env e : List Bi}, uniS l env = some e → ∀ ρ, Ext ρ e ↔ Ext ρ env ∧ Sats ρ l := by
  induction l with
  | nil =>
    intro env e h ρ
    injection h with h
    subst h
    exact ⟨fun h => ⟨h, fun p hp => by cases hp⟩, fun h => h.1⟩
  | cons p l ih =>
    intro env e h ρ
    obtain ⟨m, h1, h2⟩ := Option.bind_eq_some_iff.1 h
    rw [ih h2 ρ, uni_some h1 ρ]
    unfold Sats
    simp only [List.mem_cons, forall_eq_or_imp]
    exact ⟨fun h => ⟨h.1.1, h.1.2, h.2⟩, fun h => ⟨⟨h.1, h.2.1⟩, h.2.2⟩⟩
theorem unis_none {l : List (Tm × Cn)} : ∀ {env : List Bi}, uniS l env = none → ∀ {ρ}, Ext ρ env → ¬ Sats ρ l := by
  induction l with
  | nil => intro env h; cases h
  | cons p l ih =>
    intro env h ρ hρ hs
    have hp := hs p (List.mem_cons_self ..)
    have hl : Sats ρ l := fun q hq => hs q (List.mem_cons_of_mem _ hq)
    unfold uniS at h
    cases h1 : uniF p.1 p.2 env with
    | none => exact uni_none h1 hρ hp
    | some m =>
      rw [h1] at h
      exact ih h ((uni_some h1 ρ).2 ⟨hρ, hp⟩) hl
theorem lit_some {ho : Tm} {l : Li} {f : Fa} {env e : List Bi} (h : litF ho l f env = some e) : fits l f = true ∧ ∀ ρ, Ext ρ e ↔ Ext ρ env ∧ Sats ρ (eqs ho l f) := by
  unfold litF at h
  split at h
  · rename_i hf
    exact ⟨hf, unis_some h⟩
  · cases h
theorem lit_none {ho : Tm} {l : Li} {f : Fa} {env : List Bi} (h : litF ho l f env = none) : fits l f = true → ∀ {ρ}, Ext ρ env → ¬ Sats ρ (eqs ho l f) := by
  intro hf
  unfold litF at h
  rw [if_pos hf] at h
  exact unis_none h
/-- Bindings that say the same find the same. -/
theorem lit_eqv {ho : Tm} {l : Li} {f : Fa} {env env' : List Bi} (he : Eqv env env') : match litF ho l f env, litF ho l f env' with
    | some e, some e' => Eqv e e'
    | none, none => True
    | _, _ => False := by
  cases h1 : litF ho l f env with
  | some e =>
    obtain ⟨hf, h⟩ := lit_some h1
    cases h2 : litF ho l f env' with
    | some e' =>
      exact eqv_of fun ρ => by rw [h ρ, (lit_some h2).2 ρ, he.ext ρ]
    | none =>
      obtain ⟨ρ, hρ⟩ := ext_ex e
      obtain ⟨k1, k2⟩ := (h ρ).1 hρ
      exact lit_none h2 hf ((he.ext ρ).1 k1) k2
  | none =>
    cases h2 : litF ho l f env' with
    | none => trivial
    | some e' =>
      obtain ⟨hf, h⟩ := lit_some h2
      obtain ⟨ρ, hρ⟩ := ext_ex e'
      obtain ⟨k1, k2⟩ := (h ρ).1 hρ
      exact lit_none h1 hf ((he.ext ρ).2 k1) k2
/-- Two literals, in either order. -/
theorem lit_swap {ho : Tm} {a b : Li} {x y : Fa} {env : List Bi} : match (litF ho a x env).bind (litF ho b y), (litF ho b y env).bind (litF ho a x) with
    | some e, some e' => Eqv e e'
    | none, none => True
    | _, _ => False := by
  have key : ∀ {a b : Li} {x y : Fa} {e : List Bi}, (litF ho a x env).bind (litF ho b y) = some e → fits a x = true ∧ fits b y = true ∧ ∀ ρ, Ext ρ e ↔ Ext ρ env ∧ Sats ρ (eqs ho a x) ∧ Sats ρ (eqs ho b y) := by
    intro a b x y e h
    obtain ⟨m, h1, h2⟩ := Option.bind_eq_some_iff.1 h
    obtain ⟨f1, g1⟩ := lit_some h1
    obtain ⟨f2, g2⟩ := lit_some h2
    exact ⟨f1, f2, fun ρ => by rw [g2 ρ, g1 ρ, and_assoc]⟩
  have key2 : ∀ {a b : Li} {x y : Fa}, (litF ho a x env).bind (litF ho b y) = none → fits a x = true → fits b y = true → ∀ {ρ}, Ext ρ env → Sats ρ (eqs ho a x) → ¬ Sats ρ (eqs ho b y) := by
    intro a b x y h f1 f2 ρ hρ s1
    cases h1 : litF ho a x env with
    | none => exact absurd s1 (lit_none h1 f1 hρ)
    | some m =>
      rw [h1] at h
      exact lit_none h f2 (((lit_some h1).2 ρ).2 ⟨hρ, s1⟩)
  cases h1 : (litF ho a x env).bind (litF ho b y) with
  | some e =>
    obtain ⟨f1, f2, h⟩ := key h1
    cases h2 : (litF ho b y env).bind (litF ho a x) with
    | some e' =>
      exact eqv_of fun ρ => by rw [h ρ, (key h2).2.2 ρ, and_comm (a := Sats ρ (eqs ho a x))]
    | none =>
      obtain ⟨ρ, hρ⟩ := ext_ex e
      obtain ⟨k1, k2, k3⟩ := (h ρ).1 hρ
      exact key2 h2 f2 f1 k1 k3 k2
  | none =>
    cases h2 : (litF ho b y env).bind (litF ho a x) with
    | none => trivial
    | some e' =>
      obtain ⟨f1, f2, h⟩ := key h2
      obtain ⟨ρ, hρ⟩ := ext_ex e'
      obtain ⟨k1, k2, k3⟩ := (h ρ).1 hρ
      exact key2 h1 f2 f1 k1 k3 k2

/-! ### The choices of facts, literal by literal, in an order -/
def eachF (ho : Tm) (bo : List Li) (cand : Nat → List Fa) : List Nat → List Bi → List Fa → List (List Fa)
  | [], _, got => [got]
  | k :: o, env, got => (cand k).flatMap fun x => match litF ho (bo.getD k .zero) x env with
    | some e => eachF ho bo cand o e (got.set k x)
    | none => []
section
variable {ho : Tm} {bo : List Li} {cand : Nat → List Fa}
theorem each_eqv : ∀ (o : List Nat) {e e' : List Bi} (got : List Fa), Eqv e e' → eachF ho bo cand o e got = eachF ho bo cand o e' got
  | [], e, e', got, h => rfl
  | k :: o, e, e', got, h => by
    unfold eachF
    congr 1
    funext x
    have := lit_eqv (ho := ho) (l := bo.getD k .zero) (f := x) h
    split at this
    · rename_i h1 h2
      rw [h1, h2]
      exact each_eqv o _ this
    · rename_i h1 h2
      rw [h1, h2]
    · exact this.elim
theorem flatMap_perm {α β : Type} {f g : α → List β} (l : List α) (h : ∀ x, (f x).Perm (g x)) : (l.flatMap f).Perm (l.flatMap g) := by
  induction l with
  | nil => exact .refl _
  | cons x l ih => simp only [List.flatMap_cons]; exact (h x).append ih
theorem flatMap_add {α β : Type} (f g : α → List β) (l : List α) : (l.flatMap fun x => f x ++ g x).Perm (l.flatMap f ++ l.flatMap g) := by
  induction l with
  | nil => exact .refl _
  | cons x l ih =>
    simp only [List.flatMap_cons]
    refine ((List.Perm.refl (f x ++ g x)).append ih).trans ?_
    rw [List.append_assoc, List.append_assoc]
    refine (List.Perm.refl (f x)).append ?_
    rw [← List.append_assoc, ← List.append_assoc]
    exact List.perm_append_comm.append (.refl _)
theorem flatMap_swap {α β γ : Type} (f : α → β → List γ) (l : List α) (m : List β) : (l.flatMap fun x => m.flatMap fun y => f x y).Perm (m.flatMap fun y => l.flatMap fun x => f x y) := by
  induction l with
  | nil => simp
  | cons x l ih =>
    simp only [List.flatMap_cons]
    exact ((List.Perm.refl _).append ih).trans (flatMap_add (f x) (fun y => l.flatMap fun x => f x y) m).symm
theorem each_two {i j : Nat} {o : List Nat} {env : List Bi} {got : List Fa} : eachF ho bo cand (i :: j :: o) env got = (cand i).flatMap fun x => (cand j).flatMap fun y => match (litF ho (bo.getD i .zero) x env).bind (litF ho (bo.getD j .zero) y) with
    | some e => eachF ho bo cand o e ((got.set i x).set j y)
    | none => [] := by
  rw [eachF]
  congr 1
  funext x
  cases litF ho (bo.getD i .zero) x env with
  | none => simp
  | some e => rfl
theorem each_perm {o o' : List Nat} (h : o.Perm o') (hn : o.Nodup) : ∀ (env : List Bi) (got : List Fa), (eachF ho bo cand o env got).Perm (eachF ho bo cand o' env got) := by
  induction h with
  | nil => exact fun _ _ => .refl _
  | cons k h ih =>
    intro env got
    rw [eachF, eachF]
    refine flatMap_perm _ fun x => ?_
    cases litF ho (bo.getD k .zero) x env with
    | none => exact .refl _
    | some e => exact ih (List.nodup_cons.1 hn).2 e _
  | swap i j o =>
    intro env got
    have hij : j ≠ i := fun e => by subst e; simp at hn
    rw [each_two, each_two]
    refine (flatMap_swap _ _ _).trans (flatMap_perm _ fun x => flatMap_perm _ fun y => ?_)
    have := lit_swap (ho := ho) (a := bo.getD j .zero) (b := bo.getD i .zero) (x := y) (y := x) (env := env)
    split at this
    · rename_i h1 h2
      rw [h1, h2]
      simp only
      rw [each_eqv o _ this, List.set_comm _ _ hij]
    · rename_i h1 h2
      rw [h1, h2]
    · exact this.elim
  | trans h1 h2 ih1 ih2 => exact fun env got => (ih1 hn env got).trans (ih2 (h1.nodup_iff.1 hn) env got)
/-- Less to choose from, less that is found. -/
theorem each_sub {cand' : Nat → List Fa} (hc : ∀ k, (cand k).Sublist (cand' k)) : ∀ (o : List Nat) (env : List Bi) (got : List Fa), (eachF ho bo cand o env got).Sublist (eachF ho bo cand' o env got)
  | [], _, _ => .refl _
  | k :: o, env, got => by
    rw [eachF, eachF]
    have h1 : ∀ (f g : Fa → List (List Fa)), (∀ x, (f x).Sublist (g x)) → ∀ {l m : List Fa}, l.Sublist m → (l.flatMap f).Sublist (m.flatMap g) := by
      intro f g hfg l m hs
      induction hs with
      | slnil => exact .refl _
      | cons x h ih =>
        rw [List.flatMap_cons]
        exact ih.trans (List.sublist_append_right _ _)
      | cons_cons x h ih =>
        rw [List.flatMap_cons, List.flatMap_cons]
        exact (hfg x).append ih
    refine h1 _ _ (fun x => ?_) (hc k)
    cases litF ho (bo.getD k .zero) x env with
    | none => exact .refl _
    | some e => exact each_sub hc o e _
end
end Go.Proofs.YthdfpankebjleaaGreat

/-
  Blocks that a walk makes and forgets; arguments that are frozen at a call.
  Conditions: none.
-/
namespace Go.Proofs.YthdfpankebjleaaGreat
open Go Go.Av

/-- What was tracked is tracked yet; beside it these blocks are. -/
structure Ctx (σ0 : St) (L : List (Nat × AObj)) (σ : St) : Prop where
  sub : ∀ x o, σ0 x = some o → σ x = some o
  frs : ∀ p ∈ L, σ0 p.1 = none
  mem : ∀ p ∈ L, σ p.1 = some p.2
  nod : (L.map Prod.fst).Nodup
section
variable {σ0 σ σ' : St} {L : List (Nat × AObj)} {b b0 b1 b2 b3 b4 b5 : Nat} {o o' o0 o1 o2 o3 o4 o5 : AObj} {k : AV → St → Prop} {cs : List AV}
theorem Ctx.nil : Ctx σ [] σ := ⟨fun _ _ h => h, fun p hp => (by cases hp), fun p hp => (by cases hp), List.nodup_nil⟩
theorem Ctx.new (c : Ctx σ0 L σ) (hb : σ b = none) : Ctx σ0 ((b, o) :: L) (σ.set b o) where
  sub := fun x p hx => by
    have := c.sub x p hx
    rw [set_ne (fun e => by rw [e, hb] at this; cases this)]
    exact this
  frs p hp := by
    rcases List.mem_cons.1 hp with rfl | hp
    · exact none_of_sub c.sub hb
    · exact c.frs p hp
  mem p hp := by
    rcases List.mem_cons.1 hp with rfl | hp
    · exact set_same
    · have := c.mem p hp
      rw [set_ne (fun e => by rw [e, hb] at this; cases this)]
      exact this
  nod := by
    rw [List.map_cons, List.nodup_cons]
    refine ⟨fun h => ?_, c.nod⟩
    obtain ⟨p, hp, he⟩ := List.mem_map.1 h
    have := c.mem p hp
    rw [he, hb] at this
    cases this
theorem Ctx.upd (c : Ctx σ0 L σ) (i : Nat) (hi : (L[i]?).map Prod.fst = some b) : Ctx σ0 (L.set i (b, o')) (σ.set b o') := by
  obtain ⟨⟨b', o⟩, h1, h2⟩ := Option.map_eq_some_iff.1 hi
  simp only at h2
  subst h2
  obtain ⟨hl, h1⟩ := List.getElem?_eq_some_iff.1 h1
  have hb0 : σ0 b' = none := c.frs _ (h1 ▸ List.getElem_mem hl)
  have hm : ∀ p ∈ L.set i (b', o'), ∃ j, ∃ hj : j < L.length, p = if j = i then (b', o') else L[j] := fun p hp => by
    obtain ⟨j, hj, rfl⟩ := List.mem_iff_getElem.1 hp
    refine ⟨j, by simpa using hj, ?_⟩
    rw [List.getElem_set]
    by_cases e : i = j
    · rw [if_pos e, if_pos e.symm]
    · rw [if_neg e, if_neg (Ne.symm e)]
  have hn : ∀ j (hj : j < L.length), j ≠ i → L[j].1 ≠ b' := fun j hj hji e => by
    have hp := List.pairwise_iff_getElem.1 c.nod
    rcases Nat.lt_or_gt_of_ne hji with h | h
    · exact hp j i (by simpa using hj) (by simpa using hl) h (by simp [e, h1])
    · exact hp i j (by simpa using hl) (by simpa using hj) h (by simp [e, h1])
  refine ⟨sub_set hb0 c.sub, fun p hp => ?_, fun p hp => ?_, ?_⟩
  · obtain ⟨j, hj, rfl⟩ := hm p hp
    split
    · exact hb0
    · exact c.frs _ (List.getElem_mem hj)
  · obtain ⟨j, hj, rfl⟩ := hm p hp
    split
    · exact set_same
    · rename_i hji
      rw [set_ne (hn j hj hji)]
      exact c.mem _ (List.getElem_mem hj)
  · rw [List.map_set, show (b', o').1 = b' from rfl, show (L.map Prod.fst).set i b' = L.map Prod.fst from ?_]
    · exact c.nod
    · refine List.ext_getElem? fun j => ?_
      by_cases e : i = j
      · subst e; simp [List.getElem?_set, hl, h1]
      · rw [List.getElem?_set_ne e]
theorem Ctx.f0 (c : Ctx σ0 ((b0, o0) :: L) σ) : σ0 b0 = none := c.frs (b0, o0) (by simp)
theorem Ctx.f1 (c : Ctx σ0 ((b0, o0) :: (b1, o1) :: L) σ) : σ0 b1 = none := c.frs (b1, o1) (by simp)
theorem Ctx.g0 (c : Ctx σ0 ((b0, o0) :: L) σ) : σ b0 = some o0 := c.mem (b0, o0) (by simp)
theorem Ctx.g1 (c : Ctx σ0 ((b0, o0) :: (b1, o1) :: L) σ) : (σ b0 = some o0 ∧ σ b1 = some o1) ∧ b0 ≠ b1 ∧ b1 ≠ b0 := by
  have := c.nod
  simp only [List.map_cons, List.nodup_cons, List.mem_cons, not_or] at this
  exact ⟨⟨c.mem (b0, o0) (by simp), c.mem (b1, o1) (by simp)⟩, this.1.1, Ne.symm this.1.1⟩
theorem Ctx.g2 (c : Ctx σ0 ((b0, o0) :: (b1, o1) :: (b2, o2) :: L) σ) : (σ b0 = some o0 ∧ σ b1 = some o1 ∧ σ b2 = some o2) ∧ b0 ≠ b1 ∧ b1 ≠ b0 ∧ b0 ≠ b2 ∧ b2 ≠ b0 ∧ b1 ≠ b2 ∧ b2 ≠ b1 := by
  have := c.nod
  simp only [List.map_cons, List.nodup_cons, List.mem_cons, not_or] at this
  exact ⟨⟨c.mem (b0, o0) (by simp), c.mem (b1, o1) (by simp), c.mem (b2, o2) (by simp)⟩, this.1.1, Ne.symm this.1.1, this.1.2.1, Ne.symm this.1.2.1, this.2.1.1, Ne.symm this.2.1.1⟩
theorem Ctx.g3 (c : Ctx σ0 ((b0, o0) :: (b1, o1) :: (b2, o2) :: (b3, o3) :: L) σ) : (σ b0 = some o0 ∧ σ b1 = some o1 ∧ σ b2 = some o2 ∧ σ b3 = some o3) ∧ b0 ≠ b1 ∧ b1 ≠ b0 ∧ b0 ≠ b2 ∧ b2 ≠ b0 ∧ b1 ≠ b2 ∧ b2 ≠ b1 ∧ b0 ≠ b3 ∧ b3 ≠ b0 ∧ b1 ≠ b3 ∧ b3 ≠ b1 ∧ b2 ≠ b3 ∧ b3 ≠ b2 := by
  have := c.nod
  simp only [List.map_cons, List.nodup_cons, List.mem_cons, not_or] at this
  exact ⟨⟨c.mem (b0, o0) (by simp), c.mem (b1, o1) (by simp), c.mem (b2, o2) (by simp), c.mem (b3, o3) (by simp)⟩, this.1.1, Ne.symm this.1.1, this.1.2.1, Ne.symm this.1.2.1, this.2.1.1, Ne.symm this.2.1.1, this.1.2.2.1, Ne.symm this.1.2.2.1, this.2.1.2.1, Ne.symm this.2.1.2.1, this.2.2.1.1, Ne.symm this.2.2.1.1⟩
theorem Ctx.g4 (c : Ctx σ0 ((b0, o0) :: (b1, o1) :: (b2, o2) :: (b3, o3) :: (b4, o4) :: L) σ) : (σ b0 = some o0 ∧ σ b1 = some o1 ∧ σ b2 = some o2 ∧ σ b3 = some o3 ∧ σ b4 = some o4) ∧ (b0 ≠ b1 ∧ b1 ≠ b0 ∧ b0 ≠ b2 ∧ b2 ≠ b0 ∧ b1 ≠ b2 ∧ b2 ≠ b1 ∧ b0 ≠ b3 ∧ b3 ≠ b0 ∧ b1 ≠ b3 ∧ b3 ≠ b1 ∧ b2 ≠ b3 ∧ b3 ≠ b2) ∧ b0 ≠ b4 ∧ b4 ≠ b0 ∧ b1 ≠ b4 ∧ b4 ≠ b1 ∧ b2 ≠ b4 ∧ b4 ≠ b2 ∧ b3 ≠ b4 ∧ b4 ≠ b3 := by
  have := c.nod
  simp only [List.map_cons, List.nodup_cons, List.mem_cons, not_or] at this
  exact ⟨⟨c.mem (b0, o0) (by simp), c.mem (b1, o1) (by simp), c.mem (b2, o2) (by simp), c.mem (b3, o3) (by simp), c.mem (b4, o4) (by simp)⟩, ⟨this.1.1, Ne.symm this.1.1, this.1.2.1, Ne.symm this.1.2.1, this.2.1.1, Ne.symm this.2.1.1, this.1.2.2.1, Ne.symm this.1.2.2.1, this.2.1.2.1, Ne.symm this.2.1.2.1, this.2.2.1.1, Ne.symm this.2.2.1.1⟩, this.1.2.2.2.1, Ne.symm this.1.2.2.2.1, this.2.1.2.2.1, Ne.symm this.2.1.2.2.1, this.2.2.1.2.1, Ne.symm this.2.2.1.2.1, this.2.2.2.1.1, Ne.symm this.2.2.2.1.1⟩
theorem Ctx.tl {p : Nat × AObj} (c : Ctx σ0 (p :: L) σ) : Ctx σ0 L σ := ⟨c.sub, fun q hq => c.frs q (List.mem_cons_of_mem _ hq), fun q hq => c.mem q (List.mem_cons_of_mem _ hq), (List.nodup_cons.1 c.nod).2⟩
/-- A new block, and what is known then. -/
theorem Ctx.alloc (c : Ctx σ0 L σ) (h : ∀ b σ', Ctx σ0 ((b, o) :: L) σ' → k (ptr b) σ') : aNew σ o k := aNew_intro fun b hb hbn => h b _ (c.new hb)
theorem Ctx.view (c : Ctx σ0 L σ) (r : AV) : View σ r σ0 r := view_drop c.sub
/-- Behind a store. -/
theorem Ctx.put (c : Ctx σ0 L σ) (i : Nat) (hi : (L[i]?).map Prod.fst = some b) {G : St → Prop} (h : ∀ σ', Ctx σ0 (L.set i (b, o')) σ' → G σ') : G (σ.set b o') := h _ (c.upd i hi)
theorem Ctx.abs (c : Ctx σ0 L σ) (i : Nat) (hi : (L[i]?).map Prod.fst = some b) (o' : AObj) : ∃ s, σ.set b o' = s ∧ Ctx σ0 (L.set i (b, o')) s := ⟨_, rfl, c.upd i hi⟩
/-- A block that is in the way of nothing. -/
theorem Ctx.fresh (c : Ctx σ0 L σ) (hb : σ b = none) : σ0 b = none := none_of_sub c.sub hb
theorem Ctx.more (c : Ctx σ0 L σ) (h : ∀ x o, σ x = some o → σ' x = some o) : Ctx σ0 L σ' := ⟨fun x o hx => h x o (c.sub x o hx), c.frs, fun p hp => h _ _ (c.mem p hp), c.nod⟩
end

section
variable {σ σ1 : St} {q : Nat} {lv : AV} {es : List (List AV)} {P : Program} {f : FuncId}
theorem own_no_sl {x : Nat} : ¬ Own (.sl q es) x := fun ⟨n, c, e⟩ => by cases e
theorem own_no_fsl {x : Nat} : ¬ Own (.fsl q es) x := fun ⟨n, c, e⟩ => by cases e
theorem own_no_nil {x : Nat} : ¬ Own nilS x := fun ⟨n, c, e⟩ => by cases e
theorem own_slv {b n c x : Nat} : Own (slv b n c) x ↔ x = b := by
  constructor
  · rintro ⟨n', c', e⟩
    simp only [AV.v.injEq, Value.slice.injEq, Option.some.injEq, Addr.mk.injEq] at e
    exact e.1.1.symm
  · rintro rfl; exact ⟨_, _, rfl⟩
/-- A slice that was made, seen as its elements; nothing else is known beside what was. -/
theorem ret_vw (h : LAt q σ1 lv es) (hg : Grow σ σ1 lv) : VW σ1 σ lv (.sl q es) := h.vw_same fun x hx => hg.own hx
theorem ret_sl (h : LAt q σ1 lv es) (hg : Grow σ σ1 lv) : View σ1 lv σ (.sl q es) :=
  view_of (sv_of fun x o hx => .inl (hg.sub x o hx)) (ret_vw h hg)
theorem ret_sl2 (h : LAt q σ1 lv es) (hg : Grow σ σ1 lv) (x : AV) : View σ1 (.tup [lv, x]) σ (.tup [.sl q es, x]) :=
  view_of (sv_of fun x o hx => .inl (hg.sub x o hx)) (.tup _ _ rfl (vws_cons (ret_vw h hg) (vws_refl _)).2)
theorem ret_nil2 (h : ∀ x o, σ x = some o → σ1 x = some o) (x : AV) : View σ1 (.tup [nilS, x]) σ (.tup [.sl q [], x]) :=
  view_of (sv_of fun x o hx => .inl (h x o hx)) (.tup _ _ rfl (vws_cons (.nil q) (vws_refl _)).2)
/-- At a call what is tracked may be frozen, arguments seen as less. -/
theorem AT.pre {args args' : List AV} {Q : AV → St → Prop} (h : AT P f args' σ1 Q) (hn : isClone P f = false) (hS : SV σ σ1) (hw : VWs σ σ1 args args') : AT P f args σ Q := by
  rcases h with ⟨h1, h2⟩ | ⟨h1, h2⟩
  · refine .inl ⟨h1, fun F w vs hs hv => ?_⟩
    obtain ⟨F', k1, k2, k3⟩ := view_of hS (.tup args args' hw.1 hw.2) F w (.tuple vs.toArray) hs (.tup _ _ (by simpa using hv.1) (fun j hj => by simpa using hv.2 j hj))
    have hv' : RVs F' w args' vs := by
      cases k3 with
      | tup _ _ hl hh => exact ⟨by simpa using hl, fun j hj => by simpa using hh j hj⟩
    exact (h2 F' w vs k2 hv').mono fun e w' ⟨x, F'', σ', r, g1, g2, g3, g4, g5⟩ => ⟨x, F'', σ', r, g1, k1.trans g2, g3, g4, g5⟩
  · rw [hn] at h1; cases h1
end
end Go.Proofs.YthdfpankebjleaaGreat

/-
  A term's value, and a term made a constant, as both packages reckon them.
  Conditions: none.
-/
namespace Go.Proofs.YthdfpankebjleaaGreat
open Go Go.Av

def Cn.zero : Cn := ⟨false, 0, emp⟩
def resV (o : Option Cn) : AV := .tup [.agg (o.getD .zero).cs, boo o.isSome]
def resU (o : Option (List Bi)) : AV := .tup [.sl 4 (biC (o.getD [])), boo o.isSome]
@[go_sem] theorem Tm.val1 (t : Tm) : (t.cs.drop 1).take 3 = t.val.cs := rfl
@[go_sem] theorem Tm.len1 (t : Tm) : (t.cs.drop 1).length = 3 := rfl
@[go_sem] theorem Bi.val1 (x : Bi) : (x.cs.drop 1).take 3 = x.c.cs := rfl
@[go_sem] theorem Bi.len1 (x : Bi) : (x.cs.drop 1).length = 3 := rfl
@[go_sem] theorem Tm.app (a b : Tm) : a.cs ++ b.cs.drop 4 = a.cs := rfl
@[go_sem] theorem Cn.app (a b : Cn) : a.cs ++ b.cs.drop 3 = a.cs := rfl
@[go_sem] theorem Fa.app (a b : Fa) : a.cs ++ b.cs.drop 4 = a.cs := rfl
section
variable {K : AV → Prop} {σ : St}
theorem tm_eq {t : Tm} (h : K (boo (decide (t = .zero)))) : aAgg Tryz.prog false 40 (.agg t.cs) (.agg Tm.zero.cs) K := by
  refine agg_by (ls := [.s, .b, .i .i64, .s]) (vs := [.string t.v, .bool t.b, .int .i64 t.n, .string t.s]) (ws := [.string emp, .bool false, .int .i64 0, .string emp]) (by kernel_rfl) (by kernel_rfl) (by kernel_rfl) rfl rfl rfl rfl (by simp [Fit, Leaf.ok]) (by simp [Fit, Leaf.ok]) ?_
  rcases t with ⟨v, b, n, s⟩
  simpa [eqL, eqLeaf, Tm.zero] using h
theorem cn_eq {a b : Cn} (h : K (boo (decide (a = b)))) : aAgg Tryz.prog false 38 (.agg a.cs) (.agg b.cs) K := by
  refine agg_by (ls := [.b, .i .i64, .s]) (vs := [.bool a.b, .int .i64 a.n, .string a.s]) (ws := [.bool b.b, .int .i64 b.n, .string b.s]) (by kernel_rfl) (by kernel_rfl) (by kernel_rfl) rfl rfl rfl rfl (by simp [Fit, Leaf.ok]) (by simp [Fit, Leaf.ok]) ?_
  rcases a with ⟨x, n, s⟩
  rcases b with ⟨y, m, t⟩
  cases x <;> cases y <;> simpa [eqL, eqLeaf] using h
theorem cn_ne {a b : Cn} (h : K (boo (!decide (a = b)))) : aAgg Tryz.prog true 38 (.agg a.cs) (.agg b.cs) K := by
  refine agg_by (ls := [.b, .i .i64, .s]) (vs := [.bool a.b, .int .i64 a.n, .string a.s]) (ws := [.bool b.b, .int .i64 b.n, .string b.s]) (by kernel_rfl) (by kernel_rfl) (by kernel_rfl) rfl rfl rfl rfl (by simp [Fit, Leaf.ok]) (by simp [Fit, Leaf.ok]) ?_
  rcases a with ⟨x, n, s⟩
  rcases b with ⟨y, m, t⟩
  cases x <;> cases y <;> simpa [eqL, eqLeaf] using h
/-- The end of a function of two results, the first one in a block of its own. -/
theorem aRet_ct {P : Program} {Q : AV → St → Prop} {fr : Fr} {t tt u b : Nat} {i : TK} {cs : List AV} (σ' : St) (r' : AV) (hfr : fr t = .v (.pointer (some ⟨b, 0, none⟩))) (hb : σ b = some (.cells cs)) (hi : tk P tt = some i) (hag : i.ag = true) (hsz : i.sz = cs.length)
    (hv : View σ (.tup [.agg cs, fr u]) σ' r') (hq : Q r' σ') : aRet P Q [.cell t tt, .tmp u] fr σ :=
  ⟨.tup [.agg cs, fr u], by simp [aResult, aResL, aRes1, aResC, hfr, hi, hag, hb, hsz, oneR], r', σ', hv, hq⟩

theorem name_at (s : ByteArray) : AT Tryz.prog 45 [str s] σ fun r σ' => r = .agg (nmC s).cs ∧ σ' = σ := by
  refine AT.of_body Tryz.func45 rfl (by decide) (by kernel_rfl) (by kernel_rfl) (Nat.le_of_ble_eq_true rfl) ?_
  simp only [go_sem]
  refine Ctx.nil.alloc fun p σ1 c1 => ?_
  simp only [go_sem, c1.g0]
  exact aRet_cell σ (.agg (nmC s).cs) rfl set_same tk38 rfl rfl ((c1.upd 0 rfl).view _) ⟨rfl, rfl⟩
theorem text_at (s : ByteArray) : AT Tryz.prog 61 [str s] σ fun r σ' => r = .agg (nmC s).cs ∧ σ' = σ := by
  refine AT.of_body Tryz.func61 rfl (by decide) (by kernel_rfl) (by kernel_rfl) (Nat.le_of_ble_eq_true rfl) ?_
  simp only [go_sem]
  refine Ctx.nil.alloc fun p σ1 c1 => ?_
  simp only [go_sem, c1.g0]
  exact aRet_cell σ (.agg (nmC s).cs) rfl set_same tk38 rfl rfl ((c1.upd 0 rfl).view _) ⟨rfl, rfl⟩
theorem none_at (t : Tm) : AT Tryz.prog 85 [.agg t.cs] σ fun r σ' => r = boo (decide (t = .zero)) ∧ σ' = σ := by
  refine AT.of_body Tryz.func85 rfl (by decide) (by kernel_rfl) (by kernel_rfl) (Nat.le_of_ble_eq_true rfl) ?_
  simp only [go_sem]
  refine Ctx.nil.alloc fun p σ1 c1 => ?_
  simp only [go_sem, c1.g0]
  refine tm_eq ?_
  simp only [go_sem]
  exact aRet_view (r := boo _) rfl _ σ (c1.view _) ⟨rfl, rfl⟩
theorem or_at' (a b : Tm) : AT Tryz.prog 60 [.agg a.cs, .agg b.cs] σ fun r σ' => r = .agg (orT a b).cs ∧ σ' = σ := by
  refine AT.of_body Tryz.func60 rfl (by decide) (by kernel_rfl) (by kernel_rfl) (Nat.le_of_ble_eq_true rfl) ?_
  simp only [go_sem]
  refine Ctx.nil.alloc fun p σ1 c1 => ?_
  simp only [go_sem]
  refine c1.alloc fun q σ2 c2 => ?_
  simp only [go_sem]
  refine c2.alloc fun r σ3 c3 => ?_
  simp only [go_sem, c3.g2]
  refine tm_eq ?_
  simp only [go_sem]
  refine aIf_by (fun h => ?_) (fun h => ?_)
  · simp only [go_sem, c3.g2]
    exact aRet_cell σ (.agg (orT a b).cs) rfl set_same tk40 rfl rfl (by unfold orT; rw [if_pos h]; exact (c3.upd 0 rfl).view _) ⟨rfl, rfl⟩
  · simp only [go_sem, c3.g2]
    exact aRet_cell σ (.agg (orT a b).cs) rfl set_same tk40 rfl rfl (by unfold orT; rw [if_neg h]; exact (c3.upd 0 rfl).view _) ⟨rfl, rfl⟩
theorem valc_at {t : Tm} {b : Bi} {q : Nat} (hq : σ q = some (.cells t.cs)) : AT Tryz.prog 109 [.agg b.cs, ptr q] σ fun r σ' => r = boo (decide (b.v = t.v)) ∧ σ' = σ := by
  refine AT.of_body Tryz.func109 rfl (by decide) (by kernel_rfl) (by kernel_rfl) (Nat.le_of_ble_eq_true rfl) ?_
  simp only [go_sem]
  refine Ctx.nil.alloc fun p σ1 c1 => ?_
  simp only [go_sem, c1.g0, c1.sub _ _ hq]
  exact aRet_view (r := boo _) rfl _ σ (c1.view _) ⟨rfl, rfl⟩
theorem ixf_at {t : Tm} {q : Nat} (env : List Bi) (hl : env.length ≤ 1000000000) (hq : σ q = some (.cells t.cs)) : AT Tryz.prog 108 [.sl 4 (biC env), .v (.func (.func 109) #[] #[.pointer (some ⟨q, 0, none⟩)])] σ fun r σ' => σ' = σ ∧ ((∃ i, ∃ h : i < env.length, r = int i ∧ look env t.v = some env[i].c) ∨ (r = int (-1) ∧ look env t.v = none)) := by
  refine AT.of_body Tryz.func108 rfl (by decide) (by kernel_rfl) (by kernel_rfl) (Nat.le_of_ble_eq_true rfl) ?_
  simp only [go_sem, r_block]
  refine ⟨fun m fr σ' => ∃ i : Nat, m = env.length - i ∧ i ≤ env.length ∧ σ' = σ ∧ look (env.drop i) t.v = look env t.v ∧ fr 0 = .sl 4 (biC env) ∧ fr 1 = .v (.func (.func 109) #[] #[.pointer (some ⟨q, 0, none⟩)]) ∧ fr 7 = int env.length ∧ fr 8 = int i, ⟨_, 0, rfl, by omega, rfl, rfl, rfl, rfl, rfl, rfl⟩, ?_⟩
  rintro m fr σ' ⟨i, rfl, hi, rfl, hI, f0, f1, f7, f8⟩
  simp only [go_sem, f7, f8]
  refine aIf_by (fun hlt => ?_) (fun hlt => ?_)
  · have hil : i < env.length := by omega
    rw [List.drop_eq_getElem_cons hil] at hI
    have e2 : look (env[i] :: env.drop (i + 1)) t.v = if env[i].v = t.v then some env[i].c else look (env.drop (i + 1)) t.v := rfl
    rw [e2] at hI
    simp only [go_sem, r_block, f0, f1, f8, biC_get hil]
    refine ⟨by omega, ?_⟩
    refine (valc_at hq).mono ?_
    rintro _ _ ⟨rfl, rfl⟩
    simp only [go_sem]
    refine aIf_by (fun h0 => ?_) (fun h0 => ?_)
    · simp only [go_sem, f8]
      rw [if_pos h0] at hI
      exact aRet_as (r := int i) rfl ⟨rfl, .inl ⟨i, hil, rfl, hI.symm⟩⟩
    · simp only [go_sem, f0, f1, f7, f8, next64 (show i < 9223372036854775807 by omega)]
      rw [if_neg h0] at hI
      exact ⟨env.length - (i + 1), by omega, i + 1, rfl, by omega, hI, rfl⟩
  · simp only [go_sem]
    rw [List.drop_of_length_le (by omega)] at hI
    exact aRet_as (r := int (-1)) rfl ⟨rfl, .inr ⟨rfl, hI.symm⟩⟩
end
end Go.Proofs.YthdfpankebjleaaGreat

/-
  Facts and lists of facts held against each other, as the document reckons it.
  Conditions: none.
-/
namespace Go.Proofs.YthdfpankebjleaaGreat
open Go Go.Av

theorem rd_one {q : Nat} {σ : St} {v : AV} {es : List (List AV)} (h : Rd q σ v es) : v.one = true := by
  rcases h with rfl | h
  · rfl
  · exact h.one
/-- A fact whose arguments are this slice. -/
def faX (f : Fa) (v : AV) : List AV := [str f.at', str f.by', str f.pr, v]
@[go_sem] theorem faX_len (f : Fa) (v : AV) : (faX f v).length = 4 := rfl
@[go_sem] theorem faX_take (f : Fa) (v : AV) : (faX f v).take 4 = faX f v := rfl
@[go_sem] theorem faX_0 (f : Fa) (v : AV) : (faX f v).getD 0 (.v undef) = str f.at' := rfl
@[go_sem] theorem faX_1 (f : Fa) (v : AV) : (faX f v).getD 1 (.v undef) = str f.by' := rfl
@[go_sem] theorem faX_2 (f : Fa) (v : AV) : (faX f v).getD 2 (.v undef) = str f.pr := rfl
@[go_sem] theorem faX_3 (f : Fa) (v : AV) : (faX f v).getD 3 (.v undef) = v := rfl
theorem faX_one (f : Fa) {v : AV} (h : v.one = true) : (faX f v).all AV.one = true := by unfold faX; simp only [List.all_cons, List.all_nil, h, Bool.and_true]; rfl
@[go_sem] theorem Fa.d1 (f : Fa) : (f.cs.drop 1).getD 0 (.v undef) = str f.by' := rfl
@[go_sem] theorem Fa.d2 (f : Fa) : (f.cs.drop 2).getD 0 (.v undef) = str f.pr := rfl
@[go_sem] theorem Fa.d3 (f : Fa) : (f.cs.drop 3).getD 0 (.v undef) = .sl 3 (cnC f.ar) := rfl
@[go_sem] theorem Cn.d1 (c : Cn) : (c.cs.drop 1).getD 0 (.v undef) = int c.n := rfl
@[go_sem] theorem Cn.d2 (c : Cn) : (c.cs.drop 2).getD 0 (.v undef) = str c.s := rfl
def faC (l : List Fa) : List (List AV) := l.map Fa.cs
@[go_sem] theorem faC_len (l : List Fa) : (faC l).length = l.length := by simp [faC]
theorem faC_get {l : List Fa} {i : Nat} (h : i < l.length) : (faC l).getD i [] = l[i].cs := by simp [faC, List.getD_eq_getElem?_getD, h]
def boC (l : List (List Fa)) : List (List AV) := l.map fun b => [.sl 4 (faC b)]
@[go_sem] theorem boC_len (l : List (List Fa)) : (boC l).length = l.length := by simp [boC]
theorem boC_get {l : List (List Fa)} {i : Nat} (h : i < l.length) : (boC l).getD i [] = [.sl 4 (faC l[i])] := by simp [boC, List.getD_eq_getElem?_getD, h]
/-- A fact whose arguments can be read. -/
def FX (σ : St) (f : Fa) (e : List AV) : Prop := ∃ v, e = faX f v ∧ Rd 3 σ v (cnC f.ar)
/-- A list of such facts that can be read. -/
def BX (σ : St) (b : List Fa) (lv : AV) : Prop := ∃ es, Rd 4 σ lv es ∧ es.length = b.length ∧ ∀ i (h : i < b.length), FX σ b[i] (es.getD i [])
theorem FX.cs {σ : St} {f : Fa} : FX σ f f.cs := ⟨_, rfl, .sl⟩
theorem BX.sl {σ : St} {b : List Fa} : BX σ b (.sl 4 (faC b)) := ⟨_, .sl, by simp [faC], fun i h => by rw [faC_get h]; exact .cs⟩
theorem FX.keep {σ σ' : St} {f : Fa} {e : List AV} (h : FX σ f e) (hs : ∀ x o, σ x = some o → σ' x = some o) : FX σ' f e := by
  obtain ⟨v, h1, h2⟩ := h
  exact ⟨v, h1, h2.keep hs⟩
theorem BX.keep {σ σ' : St} {b : List Fa} {lv : AV} (h : BX σ b lv) (hs : ∀ x o, σ x = some o → σ' x = some o) : BX σ' b lv := by
  obtain ⟨es, h1, h2, h3⟩ := h
  exact ⟨es, h1.keep hs, h2, fun i hi => (h3 i hi).keep hs⟩
/-- Small enough to be gone through. -/
def Fa.Sm (f : Fa) : Prop := f.ar.length ≤ 1000000000
section
variable {σ : St}
theorem texts_at (x y : ByteArray) : AT Tryz.prog 77 [str x, str y] σ fun r σ' => r = int (cmpS x y) ∧ σ' = σ := by
  refine AT.of_body Tryz.func77 rfl (by decide) (by kernel_rfl) (by kernel_rfl) (Nat.le_of_ble_eq_true rfl) ?_
  simp only [go_sem]
  refine aIf_bool (fun h1 => ?_) (fun h1 => ?_)
  · simp only [go_sem]
    exact aRet_as (r := int (-1)) rfl ⟨by unfold cmpS; rw [if_pos h1], rfl⟩
  · by_cases h2 : x = y
    · have e : (Op.bytesLess x.toList y.toList || decide (x = y)) = true := by rw [decide_eq_true h2]; simp
      simp only [go_sem, e, Bool.not_true]
      exact aRet_as (r := int 0) rfl ⟨by unfold cmpS; rw [if_neg (by rw [h1]; decide), if_pos h2], rfl⟩
    · have e : (Op.bytesLess x.toList y.toList || decide (x = y)) = false := by rw [decide_eq_false h2, h1]; rfl
      simp only [go_sem, e, Bool.not_false]
      exact aRet_as (r := int 1) rfl ⟨by unfold cmpS; rw [if_neg (by rw [h1]; decide), if_neg h2], rfl⟩
theorem rcmpC_at (x y : Cn) : AT Tryz.prog 78 [.agg x.cs, .agg y.cs] σ fun r σ' => r = int (cmpC x y) ∧ σ' = σ := by
  refine AT.of_body Tryz.func78 rfl (by decide) (by kernel_rfl) (by kernel_rfl) (Nat.le_of_ble_eq_true rfl) ?_
  simp only [go_sem]
  refine Ctx.nil.alloc fun p σ1 c1 => ?_
  simp only [go_sem]
  refine c1.alloc fun q σ2 c2 => ?_
  have e : cmpC x y = if x.b = y.b then orI [cmpI x.n y.n, cmpS x.s y.s] else if x.b = true then -1 else 1 := rfl
  cases hx : x.b with
  | true =>
    cases hy : y.b with
    | false =>
      simp only [go_sem, c2.g1, hx, hy]
      exact aRet_view (r := int (-1)) rfl _ σ (c2.view _) ⟨by rw [e, hx, hy]; rfl, rfl⟩
    | true =>
      rw [hx, hy, if_pos rfl] at e
      simp only [go_sem, c2.g1, hx, hy]
      refine aIf_by (fun h1 => ?_) (fun h1 => ?_)
      · simp only [go_sem]
        exact aRet_view (r := int (-1)) rfl _ σ (c2.view _) ⟨by rw [e]; unfold cmpI; rw [if_pos h1]; rfl, rfl⟩
      · simp only [go_sem, c2.g1]
        refine aIf_by (fun h2 => ?_) (fun h2 => ?_)
        · simp only [go_sem]
          exact aRet_view (r := int 1) rfl _ σ (c2.view _) ⟨by rw [e]; unfold cmpI; rw [if_neg h1, if_neg (by omega)]; rfl, rfl⟩
        · simp only [go_sem, c2.g1]
          refine (texts_at x.s y.s).mono ?_
          rintro _ σ2 ⟨rfl, rfl⟩
          simp only [go_sem]
          exact aRet_view (r := int _) rfl _ σ (c2.view _) ⟨by rw [e, orI2, (cmpI_ord.zero _ _).2 (show x.n = y.n by omega), if_pos rfl], rfl⟩
  | false =>
    cases hy : y.b with
    | true =>
      simp only [go_sem, c2.g1, hx, hy]
      exact aRet_view (r := int 1) rfl _ σ (c2.view _) ⟨by rw [e, hx, hy]; rfl, rfl⟩
    | false =>
      rw [hx, hy, if_pos rfl] at e
      simp only [go_sem, c2.g1, hx, hy]
      refine aIf_by (fun h1 => ?_) (fun h1 => ?_)
      · simp only [go_sem]
        exact aRet_view (r := int (-1)) rfl _ σ (c2.view _) ⟨by rw [e]; unfold cmpI; rw [if_pos h1]; rfl, rfl⟩
      · simp only [go_sem, c2.g1]
        refine aIf_by (fun h2 => ?_) (fun h2 => ?_)
        · simp only [go_sem]
          exact aRet_view (r := int 1) rfl _ σ (c2.view _) ⟨by rw [e]; unfold cmpI; rw [if_neg h1, if_neg (by omega)]; rfl, rfl⟩
        · simp only [go_sem, c2.g1]
          refine (texts_at x.s y.s).mono ?_
          rintro _ σ2 ⟨rfl, rfl⟩
          simp only [go_sem]
          exact aRet_view (r := int _) rfl _ σ (c2.view _) ⟨by rw [e, orI2, (cmpI_ord.zero _ _).2 (show x.n = y.n by omega), if_pos rfl], rfl⟩
theorem cmpL_step {α : Type} {c : α → α → Int} {l k : List α} {i : Nat} (h1 : i < l.length) (h2 : i < k.length) : cmpL c (l.drop i) (k.drop i) = if c l[i] k[i] = 0 then cmpL c (l.drop (i + 1)) (k.drop (i + 1)) else c l[i] k[i] := by
  rw [List.drop_eq_getElem_cons h1, List.drop_eq_getElem_cons h2]; rfl
theorem cmpL_end {α : Type} {c : α → α → Int} {l k : List α} {i : Nat} (h1 : i ≤ l.length) (h2 : i ≤ k.length) (h : ¬ (i < l.length ∧ i < k.length)) : cmpL c (l.drop i) (k.drop i) = if l.length < k.length then -1 else if k.length < l.length then 1 else 0 := by
  by_cases h3 : i < l.length
  · have h4 : k.drop i = [] := List.drop_of_length_le (by omega)
    rw [h4, List.drop_eq_getElem_cons h3, if_neg (by omega), if_pos (by omega)]; rfl
  · have h4 : l.drop i = [] := List.drop_of_length_le (by omega)
    rw [h4]
    by_cases h5 : i < k.length
    · rw [List.drop_eq_getElem_cons h5, if_pos (by omega)]; rfl
    · rw [List.drop_of_length_le (by omega), if_neg (by omega), if_neg (by omega)]; rfl
theorem rord_at {x y : Fa} {e1 e2 : List AV} (hx : FX σ x e1) (hy : FX σ y e2) (sx : x.Sm) (sy : y.Sm) : AT Tryz.prog 38 [.agg e1, .agg e2] σ fun r σ' => r = int (cmpF x y) ∧ σ' = σ := by
  obtain ⟨v, rfl, hv⟩ := hx
  obtain ⟨w, rfl, hw⟩ := hy
  unfold Fa.Sm at sx sy
  refine AT.of_body Tryz.func38 rfl (by decide) (by kernel_rfl) (by kernel_rfl) (Nat.le_of_ble_eq_true rfl) ?_
  simp only [go_sem, faX_one x (rd_one hv), faX_one y (rd_one hw)]
  refine Ctx.nil.alloc fun p σ1 c1 => ?_
  simp only [go_sem, faX_one x (rd_one hv), faX_one y (rd_one hw)]
  refine c1.alloc fun q σ2 c2 => ?_
  have e : cmpF x y = orI [cmpS x.at' y.at', cmpS x.by' y.by', cmpS x.pr y.pr, cmpL cmpC x.ar y.ar] := rfl
  have hv := hv.keep c2.sub
  have hw := hw.keep c2.sub
  by_cases h1 : x.at' = y.at'
  · simp only [go_sem, c2.g1, h1]
    by_cases h2 : x.by' = y.by'
    · simp only [go_sem, c2.g1, h2]
      by_cases h3 : x.pr = y.pr
      · have e : cmpF x y = cmpL cmpC x.ar y.ar := by
          rw [e, h1, h2, h3]
          simp only [orI, cmpS_zero.2 rfl, if_true]
          split
          · rename_i h; exact h.symm
          · rfl
        simp only [go_sem, r_block, c2.g1, h3]
        refine ⟨fun m fr σ' => ∃ i : Nat, m = x.ar.length - i ∧ i ≤ x.ar.length ∧ i ≤ y.ar.length ∧ σ' = σ2 ∧ cmpL cmpC (x.ar.drop i) (y.ar.drop i) = cmpL cmpC x.ar y.ar ∧ fr 2 = ptr p ∧ fr 3 = ptr q ∧ fr 5 = int i, ⟨_, 0, rfl, by omega, by omega, rfl, rfl, rfl, rfl, rfl⟩, ?_⟩
        rintro m fr σ3 ⟨i, rfl, hi1, hi2, rfl, hI, f2, f3, f5⟩
        by_cases g : i < x.ar.length ∧ i < y.ar.length
        · obtain ⟨g1, g2⟩ := g
          rw [cmpL_step g1 g2] at hI
          have d1 := decide_eq_true (show (i : Int) < x.ar.length by omega)
          have d2 := decide_eq_true (show (i : Int) < y.ar.length by omega)
          simp only [go_sem, r_block, f2, f3, f5, c2.g1, hv.len, hw.len, d1, d2]
          refine aDraw_plan [.rd 0 false, .rd 1 true, .rd 2 false, .rd 3 false, .rd 4 true, .rd 5 false, .rd 6 true, .rd 7 false, .rd 8 false, .rd 9 true, .ef 10 [], .rd 11 false] (by kernel_rfl) (by kernel_rfl) (by kernel_rfl) ?_
          simp only [go_sem, r_block, f2, f3, f5, c2.g1]
          refine hv.elem (by omega) (by rw [cnC_len]; omega) fun a ha => ?_
          simp only [go_sem, r_block]
          refine ha.load (by decide) (by rw [Int.toNat_natCast, cnC_get g1]; exact Nat.le_refl 3) ?_
          simp only [go_sem, r_block, f2, f3, f5, c2.g1, cnC_get g1]
          refine hw.elem (by omega) (by rw [cnC_len]; omega) fun b hb => ?_
          simp only [go_sem, r_block]
          refine hb.load (by decide) (by rw [Int.toNat_natCast, cnC_get g2]; exact Nat.le_refl 3) ?_
          simp only [go_sem, r_block, f2, f3, f5, c2.g1, cnC_get g2]
          refine (rcmpC_at x.ar[i] y.ar[i]).mono ?_
          rintro _ σ2 ⟨rfl, rfl⟩
          simp only [go_sem, r_block]
          refine aIf_by (fun h0 => ?_) (fun h0 => ?_)
          · rw [if_pos h0] at hI
            simp only [go_sem, r_block, f2, f3, f5, next64 (show i < 9223372036854775807 by omega)]
            refine ⟨x.ar.length - (i + 1), by omega, i + 1, ?_⟩
            (and_intros <;> first | assumption | rfl | omega)
          · rw [if_neg h0] at hI
            simp only [go_sem, r_block]
            exact aRet_view (r := int _) rfl _ σ (c2.view _) ⟨by rw [e, ← hI], rfl⟩
        · have fin : cmpF x y = if x.ar.length < y.ar.length then -1 else if y.ar.length < x.ar.length then 1 else 0 := by rw [e, ← hI, cmpL_end hi1 hi2 g]
          by_cases g1 : i < x.ar.length
          · have d1 := decide_eq_true (show (i : Int) < x.ar.length by omega)
            have d2 := decide_eq_false (show ¬ (i : Int) < y.ar.length by omega)
            have d3 := decide_eq_false (show ¬ (x.ar.length : Int) < y.ar.length by omega)
            have d4 := decide_eq_true (show (y.ar.length : Int) < x.ar.length by omega)
            rw [if_neg (by omega), if_pos (by omega)] at fin
            simp only [go_sem, r_block, f2, f3, f5, c2.g1, hv.len, hw.len, d1, d2, d3, d4]
            exact aRet_view (r := int 1) rfl _ σ (c2.view _) ⟨by rw [fin], rfl⟩
          · have d1 := decide_eq_false (show ¬ (i : Int) < x.ar.length by omega)
            simp only [go_sem, r_block, f2, f3, f5, c2.g1, hv.len, hw.len, d1]
            refine aIf_by (fun h0 => ?_) (fun h0 => ?_)
            · rw [if_pos (by omega)] at fin
              simp only [go_sem, r_block]
              exact aRet_view (r := int (-1)) rfl _ σ (c2.view _) ⟨by rw [fin], rfl⟩
            · rw [if_neg (by omega), if_neg (by omega)] at fin
              have d4 := decide_eq_false (show ¬ (y.ar.length : Int) < x.ar.length by omega)
              simp only [go_sem, r_block, f2, f3, c2.g1, hv.len, hw.len, d4]
              exact aRet_view (r := int 0) rfl _ σ (c2.view _) ⟨by rw [fin], rfl⟩
      · simp only [go_sem, c2.g1, h3]
        refine (texts_at x.pr y.pr).mono ?_
        rintro _ σ2 ⟨rfl, rfl⟩
        simp only [go_sem]
        exact aRet_view (r := int _) rfl _ σ (c2.view _) ⟨by rw [e, h1, h2]; simp only [orI, cmpS_zero.2 rfl, if_true]; rw [if_neg (fun h => h3 (cmpS_zero.1 h))], rfl⟩
    · simp only [go_sem, c2.g1, h2]
      refine (texts_at x.by' y.by').mono ?_
      rintro _ σ2 ⟨rfl, rfl⟩
      simp only [go_sem]
      exact aRet_view (r := int _) rfl _ σ (c2.view _) ⟨by rw [e, h1]; simp only [orI, cmpS_zero.2 rfl, if_true]; rw [if_neg (fun h => h2 (cmpS_zero.1 h))], rfl⟩
  · simp only [go_sem, c2.g1, h1]
    refine (texts_at x.at' y.at').mono ?_
    rintro _ σ2 ⟨rfl, rfl⟩
    simp only [go_sem]
    exact aRet_view (r := int _) rfl _ σ (c2.view _) ⟨by rw [e]; simp only [orI]; rw [if_neg (fun h => h1 (cmpS_zero.1 h))], rfl⟩
end
end Go.Proofs.YthdfpankebjleaaGreat

/-
  A derivation, as it lies in memory.
  Conditions: none.
-/
namespace Go.Proofs.YthdfpankebjleaaGreat
open Go Go.Av

/-- A derivation: by which rule, its head, its body. -/
structure De where
  ru : Int
  hd : Fa
  bo : List Fa
def De.cs (d : De) : List AV := [int d.ru, str d.hd.at', str d.hd.by', str d.hd.pr, .sl 3 (cnC d.hd.ar), .sl 4 (faC d.bo)]
@[go_sem] theorem De.len (d : De) : d.cs.length = 6 := rfl
@[go_sem] theorem De.one (d : De) : d.cs.all AV.one = true := rfl
@[go_sem] theorem De.take (d : De) : d.cs.take 6 = d.cs := rfl
@[go_sem] theorem De.at0 (d : De) : d.cs.getD 0 (.v undef) = int d.ru := rfl
@[go_sem] theorem De.at1 (d : De) : d.cs.getD 1 (.v undef) = str d.hd.at' := rfl
@[go_sem] theorem De.at2 (d : De) : d.cs.getD 2 (.v undef) = str d.hd.by' := rfl
@[go_sem] theorem De.at3 (d : De) : d.cs.getD 3 (.v undef) = str d.hd.pr := rfl
@[go_sem] theorem De.at4 (d : De) : d.cs.getD 4 (.v undef) = .sl 3 (cnC d.hd.ar) := rfl
@[go_sem] theorem De.at5 (d : De) : d.cs.getD 5 (.v undef) = .sl 4 (faC d.bo) := rfl
@[go_sem] theorem De.hd1 (d : De) : (d.cs.drop 1).take 4 = d.hd.cs := rfl
@[go_sem] theorem De.bo5 (d : De) : (d.cs.drop 5).getD 0 (.v undef) = .sl 4 (faC d.bo) := rfl
end Go.Proofs.YthdfpankebjleaaGreat

/-
  Lists of facts, and lists of these, held against each other, as the document reckons it.
  Conditions: none.
-/
namespace Go.Proofs.YthdfpankebjleaaGreat
open Go Go.Av

theorem BX.rd {σ : St} {b : List Fa} {lv : AV} (h : BX σ b lv) : ∃ es, Rd 4 σ lv es ∧ es.length = b.length ∧ ∀ i (hi : i < b.length), FX σ b[i] (es.getD i []) := h
theorem FX.len {σ : St} {f : Fa} {e : List AV} (h : FX σ f e) : e.length = 4 := by obtain ⟨v, rfl, _⟩ := h; rfl
theorem FX.take {σ : St} {f : Fa} {e : List AV} (h : FX σ f e) : e.take 4 = e := List.take_of_length_le (by rw [h.len]; omega)
section
variable {σ : St}
theorem likeF_at {a b : List Fa} {lv lw : AV} (ha : BX σ a lv) (hb : BX σ b lw) (sa : a.length ≤ 1000000000) (sa' : ∀ x ∈ a, x.Sm) (sb : b.length ≤ 1000000000) (sb' : ∀ x ∈ b, x.Sm) : AT Tryz.prog 14 [lv, lw] σ fun r σ' => r = boo (decide (a = b)) ∧ σ' = σ := by
  obtain ⟨es, h1, h2, h3⟩ := ha
  obtain ⟨es', k1, k2, k3⟩ := hb
  refine AT.of_body Tryz.func14 rfl (by decide) (by kernel_rfl) (by kernel_rfl) (Nat.le_of_ble_eq_true rfl) ?_
  simp only [go_sem, h1.len, k1.len]
  by_cases hl : a.length = b.length
  · have d := decide_eq_true (show (es.length : Int) = es'.length by omega)
    simp only [go_sem, r_block, d]
    refine ⟨fun m fr σ' => ∃ i : Nat, m = a.length - i ∧ i ≤ a.length ∧ σ' = σ ∧ a.take i = b.take i ∧ fr 0 = lv ∧ fr 1 = lw ∧ fr 5 = int i, ⟨_, 0, rfl, by omega, rfl, rfl, rfl, rfl, rfl⟩, ?_⟩
    rintro m fr σ ⟨i, rfl, hi, rfl, hI, f0, f1, f5⟩
    simp only [go_sem, f0, f1, f5, h1.len]
    refine aIf_by (fun hlt => ?_) (fun hlt => ?_)
    · have hia : i < a.length := by omega
      have hib : i < b.length := by omega
      have x1 := h3 i hia
      have x2 := k3 i hib
      simp only [go_sem, r_block]
      refine aDraw_plan [.rd 0 false, .rd 1 false, .rd 2 false, .rd 3 true, .rd 4 false, .rd 5 false, .rd 6 false, .rd 7 true, .ef 8 [], .rd 9 false] (by kernel_rfl) (by kernel_rfl) (by kernel_rfl) ?_
      simp only [go_sem, r_block, f0, f1, f5]
      refine h1.elem (by omega) (by omega) fun p hp => ?_
      simp only [go_sem, r_block]
      refine hp.load (by decide) (by rw [Int.toNat_natCast, x1.len]; exact Nat.le_refl 4) ?_
      simp only [go_sem, r_block, f0, f1, f5]
      refine k1.elem (by omega) (by omega) fun p' hp' => ?_
      simp only [go_sem, r_block]
      refine hp'.load (by decide) (by rw [Int.toNat_natCast, x2.len]; exact Nat.le_refl 4) ?_
      simp only [go_sem, r_block, f0, f1, f5, x1.take, x2.take]
      refine (rord_at x1 x2 (sa' _ (List.getElem_mem hia)) (sb' _ (List.getElem_mem hib))).mono ?_
      rintro _ σ ⟨rfl, rfl⟩
      simp only [go_sem, r_block]
      by_cases h0 : cmpF a[i] b[i] = 0
      · have e := (cmpF_ord.zero _ _).1 h0
        simp only [go_sem, r_block, h0, f0, f1, f5, next64 (show i < 9223372036854775807 by omega)]
        refine ⟨a.length - (i + 1), by omega, i + 1, ?_⟩
        have hI' : a.take (i + 1) = b.take (i + 1) := by
          rw [List.take_add_one, List.take_add_one, hI, List.getElem?_eq_getElem hia, List.getElem?_eq_getElem hib, e]
        (and_intros <;> first | assumption | rfl | omega)
      · have d0 := decide_eq_false h0
        simp only [go_sem, r_block, d0]
        refine aRet_as (r := boo false) rfl ⟨?_, rfl⟩
        rw [decide_eq_false fun e => h0 ((cmpF_ord.zero _ _).2 (by simp only [e]))]
    · simp only [go_sem, r_block]
      rw [List.take_of_length_le (by omega), List.take_of_length_le (by omega)] at hI
      exact aRet_as (r := boo true) rfl ⟨by rw [decide_eq_true hI], rfl⟩
  · have d := decide_eq_false (show ¬ (es.length : Int) = es'.length by omega)
    simp only [go_sem, d]
    exact aRet_as (r := boo false) rfl ⟨by rw [decide_eq_false fun e => hl (by rw [e])], rfl⟩
theorem hasF_at (l : List Fa) (f : Fa) (hl : l.length ≤ 1000000000) (sl : ∀ x ∈ l, x.Sm) (sf : f.Sm) : AT Tryz.prog 20 [.sl 4 (faC l), .agg f.cs] σ fun r σ' => r = boo (decide (f ∈ l)) ∧ σ' = σ := by
  refine AT.of_body Tryz.func20 rfl (by decide) (by kernel_rfl) (by kernel_rfl) (Nat.le_of_ble_eq_true rfl) ?_
  simp only [go_sem]
  refine Ctx.nil.alloc fun q σ1 c1 => ?_
  simp only [go_sem, r_block]
  refine ⟨fun m fr σ' => ∃ i : Nat, m = l.length - i ∧ i ≤ l.length ∧ σ' = σ1 ∧ f ∉ l.take i ∧ fr 0 = .sl 4 (faC l) ∧ fr 3 = ptr q ∧ fr 5 = int i, ⟨_, 0, rfl, by omega, rfl, by simp, rfl, rfl, rfl⟩, ?_⟩
  rintro m fr σ1 ⟨i, rfl, hi, rfl, hI, f0, f3, f5⟩
  simp only [go_sem, f0, f3, f5]
  refine aIf_by (fun hlt => ?_) (fun hlt => ?_)
  · have hil : i < l.length := by omega
    simp only [go_sem, r_block]
    refine aDraw_plan [.rd 0 false, .rd 1 false, .rd 2 false, .rd 3 true, .rd 4 true, .ef 5 [], .rd 6 false] (by kernel_rfl) (by kernel_rfl) (by kernel_rfl) ?_
    simp only [go_sem, r_block, f0, f3, f5, faC_get hil, c1.g0]
    refine ⟨by omega, (rord_at (x := l[i]) (y := f) .cs .cs (sl _ (List.getElem_mem hil)) sf).mono ?_⟩
    rintro _ σ1 ⟨rfl, rfl⟩
    simp only [go_sem, r_block]
    refine aIf_by (fun h0 => ?_) (fun h0 => ?_)
    · have e := (cmpF_ord.zero _ _).1 h0
      simp only [go_sem, r_block]
      exact aRet_view (r := boo true) rfl _ σ (c1.view _) ⟨by rw [decide_eq_true (e ▸ List.getElem_mem hil)], rfl⟩
    · simp only [go_sem, r_block, f0, f3, f5, next64 (show i < 9223372036854775807 by omega)]
      refine ⟨l.length - (i + 1), by omega, i + 1, ?_⟩
      have hI' : f ∉ l.take (i + 1) := by
        rw [List.take_add_one, List.getElem?_eq_getElem hil]
        simp only [Option.toList, List.mem_append, List.mem_singleton, not_or]
        exact ⟨hI, fun e => h0 ((cmpF_ord.zero _ _).2 e.symm)⟩
      (and_intros <;> first | assumption | rfl | omega)
  · simp only [go_sem, r_block]
    rw [List.take_of_length_le (by omega)] at hI
    exact aRet_view (r := boo false) rfl _ σ (c1.view _) ⟨by rw [decide_eq_false hI], rfl⟩
theorem rcmpB_at (a b : List Fa) (sa : a.length ≤ 1000000000) (sa' : ∀ x ∈ a, x.Sm) (sb : b.length ≤ 1000000000) (sb' : ∀ x ∈ b, x.Sm) : AT Tryz.prog 28 [.sl 4 (faC a), .sl 4 (faC b)] σ fun r σ' => r = int (cmpB a b) ∧ σ' = σ := by
  refine AT.of_body Tryz.func28 rfl (by decide) (by kernel_rfl) (by kernel_rfl) (Nat.le_of_ble_eq_true rfl) ?_
  simp only [go_sem, r_block]
  refine ⟨fun m fr σ' => ∃ i : Nat, m = a.length - i ∧ i ≤ a.length ∧ i ≤ b.length ∧ σ' = σ ∧ cmpL cmpF (a.drop i) (b.drop i) = cmpL cmpF a b ∧ fr 0 = .sl 4 (faC a) ∧ fr 1 = .sl 4 (faC b) ∧ fr 5 = int i, ⟨_, 0, rfl, by omega, by omega, rfl, rfl, rfl, rfl, rfl⟩, ?_⟩
  rintro m fr σ ⟨i, rfl, hi1, hi2, rfl, hI, f0, f1, f5⟩
  by_cases g : i < a.length ∧ i < b.length
  · obtain ⟨g1, g2⟩ := g
    rw [cmpL_step g1 g2] at hI
    have d1 := decide_eq_true (show (i : Int) < a.length by omega)
    have d2 := decide_eq_true (show (i : Int) < b.length by omega)
    simp only [go_sem, r_block, f0, f1, f5, d1, d2]
    refine aDraw_plan [.rd 0 false, .rd 1 false, .rd 2 false, .rd 3 true, .rd 4 false, .rd 5 false, .rd 6 false, .rd 7 true, .ef 8 [], .rd 9 false] (by kernel_rfl) (by kernel_rfl) (by kernel_rfl) ?_
    simp only [go_sem, r_block, f0, f1, f5, faC_get g1, faC_get g2]
    refine ⟨by omega, by omega, (rord_at (x := a[i]) (y := b[i]) .cs .cs (sa' _ (List.getElem_mem g1)) (sb' _ (List.getElem_mem g2))).mono ?_⟩
    rintro _ σ ⟨rfl, rfl⟩
    simp only [go_sem, r_block]
    refine aIf_by (fun h0 => ?_) (fun h0 => ?_)
    · rw [if_pos h0] at hI
      simp only [go_sem, r_block, f0, f1, f5, next64 (show i < 9223372036854775807 by omega)]
      refine ⟨a.length - (i + 1), by omega, i + 1, ?_⟩
      (and_intros <;> first | assumption | rfl | omega)
    · rw [if_neg h0] at hI
      simp only [go_sem, r_block]
      exact aRet_as (r := int _) rfl ⟨by unfold cmpB; rw [← hI], rfl⟩
  · have fin : cmpB a b = if a.length < b.length then -1 else if b.length < a.length then 1 else 0 := by unfold cmpB; rw [← hI, cmpL_end hi1 hi2 g]
    by_cases g1 : i < a.length
    · have d1 := decide_eq_true (show (i : Int) < a.length by omega)
      have d2 := decide_eq_false (show ¬ (i : Int) < b.length by omega)
      have d3 := decide_eq_false (show ¬ (a.length : Int) < b.length by omega)
      have d4 := decide_eq_true (show (b.length : Int) < a.length by omega)
      rw [if_neg (by omega), if_pos (by omega)] at fin
      simp only [go_sem, r_block, f0, f1, f5, d1, d2, d3, d4]
      exact aRet_as (r := int 1) rfl ⟨by rw [fin], rfl⟩
    · have d1 := decide_eq_false (show ¬ (i : Int) < a.length by omega)
      simp only [go_sem, r_block, f0, f1, f5, d1]
      refine aIf_by (fun h0 => ?_) (fun h0 => ?_)
      · rw [if_pos (by omega)] at fin
        simp only [go_sem, r_block]
        exact aRet_as (r := int (-1)) rfl ⟨by rw [fin], rfl⟩
      · rw [if_neg (by omega), if_neg (by omega)] at fin
        have d4 := decide_eq_false (show ¬ (b.length : Int) < a.length by omega)
        simp only [go_sem, r_block, f0, f1, d4]
        exact aRet_as (r := int 0) rfl ⟨by rw [fin], rfl⟩
/-- A list of lists of facts that can be read. -/
def LX (σ : St) (l : List (List Fa)) (lv : AV) : Prop := ∃ es, Rd 1 σ lv es ∧ es.length = l.length ∧ ∀ i (h : i < l.length), ∃ v, es.getD i [] = [v] ∧ BX σ l[i] v
def SmB (b : List Fa) : Prop := b.length ≤ 1000000000 ∧ ∀ x ∈ b, x.Sm
end
end Go.Proofs.YthdfpankebjleaaGreat

/-
  Lists that rise; what is put in at its place, once; sorted and each once; the document's finder.
  Conditions: none.
-/
namespace Go.Proofs.YthdfpankebjleaaGreat
open Go Go.Av

section
variable {α : Type} {c : α → α → Int}
def Rises (c : α → α → Int) (l : List α) : Prop := l.Pairwise fun x y => c x y < 0
/-- Put in at its place, once. -/
def insF (c : α → α → Int) (b : α) : List α → List α
  | [] => [b]
  | x :: l => if c x b < 0 then x :: insF c b l else if c x b = 0 then x :: l else b :: x :: l
theorem ins_mem (h : Ord3 c) {b y : α} : ∀ {l : List α}, y ∈ insF c b l ↔ y = b ∨ y ∈ l
  | [] => by simp [insF]
  | x :: l => by
    unfold insF
    split
    · rw [List.mem_cons, ins_mem h, List.mem_cons]
      constructor <;> rintro (h | h | h) <;> simp [h]
    · split
      · rename_i h0
        have := (h.zero x b).1 h0
        subst this
        simp
      · simp
theorem ins_rises (h : Ord3 c) {b : α} : ∀ {l : List α}, Rises c l → Rises c (insF c b l)
  | [], _ => by simp [insF, Rises]
  | x :: l, hl => by
    obtain ⟨h1, h2⟩ := List.pairwise_cons.1 hl
    unfold insF
    split
    · rename_i hx
      refine List.pairwise_cons.2 ⟨fun y hy => ?_, ins_rises h h2⟩
      rcases (ins_mem h).1 hy with rfl | hy
      · exact hx
      · exact h1 y hy
    · split
      · exact hl
      · rename_i hx h0
        have hb : c b x < 0 := (h.anti b x).2 (by omega)
        exact List.pairwise_cons.2 ⟨fun y hy => by
          rcases List.mem_cons.1 hy with rfl | hy
          · exact hb
          · exact h.trans _ _ _ hb (h1 y hy), hl⟩
theorem ins_len {b : α} : ∀ {l : List α}, (insF c b l).length ≤ l.length + 1
  | [] => by simp [insF]
  | x :: l => by
    unfold insF
    have := ins_len (b := b) (l := l)
    split
    · simp only [List.length_cons]; omega
    · split <;> simp
theorem ins_ge {b : α} : ∀ {l : List α}, l.length ≤ (insF c b l).length
  | [] => by simp [insF]
  | x :: l => by
    unfold insF
    have := ins_ge (b := b) (l := l)
    split
    · simp only [List.length_cons]; omega
    · split <;> simp
/-- Where all ahead of place k are less. -/
theorem ins_at {b : α} : ∀ {l : List α} {k : Nat}, k ≤ l.length → (∀ i (hi : i < k) (hl : i < l.length), c l[i] b < 0) → (∀ hk : k < l.length, ¬ c l[k] b < 0) →
    insF c b l = if (∃ hk : k < l.length, c l[k] b = 0) then l else l.take k ++ b :: l.drop k
  | [], k, hk, _, _ => by
    have : k = 0 := by simpa using hk
    subst this
    rw [if_neg (by rintro ⟨h, _⟩; simp at h)]
    simp [insF]
  | x :: l, 0, hk, h1, h2 => by
    unfold insF
    have hx : ¬ c x b < 0 := h2 (by simp)
    rw [if_neg hx]
    by_cases h0 : c x b = 0
    · rw [if_pos h0, if_pos ⟨by simp, h0⟩]
    · rw [if_neg h0, if_neg (by rintro ⟨_, h⟩; exact h0 h)]
      simp
  | x :: l, k + 1, hk, h1, h2 => by
    unfold insF
    rw [if_pos (show c x b < 0 from h1 0 (by omega) (by simp)), ins_at (l := l) (k := k) (by simpa using hk) (fun i hi hl => h1 (i + 1) (by omega) (by simpa using hl)) (fun hk => h2 (by simpa using hk))]
    by_cases h0 : ∃ hk : k < l.length, c l[k] b = 0
    · obtain ⟨g1, g2⟩ := h0
      rw [if_pos ⟨g1, g2⟩, if_pos ⟨by simpa using g1, g2⟩]
    · rw [if_neg h0, if_neg (by rintro ⟨g1, g2⟩; exact h0 ⟨by simpa using g1, g2⟩)]
      simp
theorem rises_ext (h : Ord3 c) : ∀ {l k : List α}, Rises c l → Rises c k → (∀ y, y ∈ l ↔ y ∈ k) → l = k
  | [], [], _, _, _ => rfl
  | [], y :: k, _, _, hm => by have := (hm y).2 (by simp); cases this
  | x :: l, [], _, _, hm => by have := (hm x).1 (by simp); cases this
  | x :: l, y :: k, hl, hk, hm => by
    obtain ⟨h1, h2⟩ := List.pairwise_cons.1 hl
    obtain ⟨k1, k2⟩ := List.pairwise_cons.1 hk
    have irr : ∀ z, ¬ c z z < 0 := fun z hz => by rw [h.self] at hz; omega
    have hxy : x = y := by
      rcases List.mem_cons.1 ((hm x).1 (by simp)) with e | e
      · exact e
      · rcases List.mem_cons.1 ((hm y).2 (by simp)) with e' | e'
        · exact e'.symm
        · exact absurd (h.trans _ _ _ (k1 x e) (h1 y e')) (irr _)
    subst hxy
    have nl : x ∉ l := fun hx => irr _ (h1 x hx)
    have nk : x ∉ k := fun hx => irr _ (k1 x hx)
    rw [rises_ext h h2 k2 fun y => ?_]
    constructor
    · intro hy
      rcases List.mem_cons.1 ((hm y).1 (List.mem_cons_of_mem _ hy)) with e | e
      · subst e; exact absurd hy nl
      · exact e
    · intro hy
      rcases List.mem_cons.1 ((hm y).2 (List.mem_cons_of_mem _ hy)) with e | e
      · subst e; exact absurd hy nk
      · exact e
theorem rises_nodup (h : Ord3 c) {l : List α} (hl : Rises c l) : l.Nodup := hl.imp fun {x y} hxy e => by subst e; rw [h.self] at hxy; omega
/-- Put in one by one. -/
def insS (c : α → α → Int) (s l : List α) : List α := l.foldl (fun s b => insF c b s) s
theorem insS_rises (h : Ord3 c) : ∀ {l s : List α}, Rises c s → Rises c (insS c s l)
  | [], s, hs => hs
  | x :: l, s, hs => insS_rises h (l := l) (ins_rises h hs)
theorem insS_mem (h : Ord3 c) {y : α} : ∀ {l s : List α}, y ∈ insS c s l ↔ y ∈ l ∨ y ∈ s
  | [], s => by simp [insS]
  | x :: l, s => by
    have : insS c s (x :: l) = insS c (insF c x s) l := rfl
    rw [this, insS_mem h, ins_mem h, List.mem_cons]
    constructor
    · rintro (g | g | g) <;> simp [g]
    · rintro ((g | g) | g) <;> simp [g]
theorem insS_app (s l m : List α) : insS c s (l ++ m) = insS c (insS c s l) m := by simp [insS, List.foldl_append]
theorem insS_len : ∀ {l s : List α}, (insS c s l).length ≤ s.length + l.length
  | [], s => by simp [insS]
  | x :: l, s => by
    have h : insS c s (x :: l) = insS c (insF c x s) l := rfl
    have h1 := insS_len (l := l) (s := insF c x s)
    have h2 := ins_len (c := c) (b := x) (l := s)
    rw [h, List.length_cons]
    omega
/-- Equal ones beside each other go. -/
def cptF (e : α → α → Bool) : List α → List α
  | [] => []
  | [x] => [x]
  | x :: y :: l => if e y x = true then cptF e (x :: l) else x :: cptF e (y :: l)
termination_by l => l.length
theorem cpt_mem (e : α → α → Bool) (he : ∀ x y, e x y = true ↔ x = y) (y : α) : ∀ l : List α, y ∈ cptF e l ↔ y ∈ l
  | [] => by simp [cptF]
  | [x] => by simp [cptF]
  | x :: z :: l => by
    unfold cptF
    split
    · rename_i h
      rw [cpt_mem e he y (x :: l), (he _ _).1 h]
      simp
    · rw [List.mem_cons, cpt_mem e he y (z :: l), List.mem_cons (a := y) (b := x)]
termination_by l => l.length
theorem cpt_rises (h : Ord3 c) {e : α → α → Bool} (he : ∀ x y, e x y = true ↔ x = y) : ∀ {l : List α}, l.Pairwise (fun x y => c x y ≤ 0) → Rises c (cptF e l)
  | [], _ => by simp [cptF, Rises]
  | [x], _ => by simp [cptF, Rises]
  | x :: z :: l, hl => by
    obtain ⟨h1, h2⟩ := List.pairwise_cons.1 hl
    unfold cptF
    split
    · rename_i hz
      rw [(he _ _).1 hz] at h2
      exact cpt_rises h he h2
    · rename_i hz
      refine List.pairwise_cons.2 ⟨fun y hy => ?_, cpt_rises h he h2⟩
      rw [cpt_mem e he] at hy
      have hxz : c x z < 0 := by
        have := h1 z (by simp)
        have h0 : c x z ≠ 0 := fun h0 => hz ((he _ _).2 ((h.zero _ _).1 h0).symm)
        omega
      rcases List.mem_cons.1 hy with rfl | hy
      · exact hxz
      · have := (List.pairwise_cons.1 h2).1 y hy
        by_cases h0 : c z y = 0
        · rw [← (h.zero _ _).1 h0]; exact hxz
        · exact h.trans _ _ _ hxz (by omega)
termination_by l => l.length
theorem cpt_len (e : α → α → Bool) : ∀ l : List α, (cptF e l).length ≤ l.length
  | [] => by simp [cptF]
  | [x] => by simp [cptF]
  | x :: z :: l => by
    unfold cptF
    split
    · have := cpt_len e (x :: l)
      simp only [List.length_cons] at this ⊢
      omega
    · have := cpt_len e (z :: l)
      simp only [List.length_cons] at this ⊢
      omega
termination_by l => l.length
/-- Sorted, and each once: the same as put in one by one. -/
theorem cpt_sorted (h : Ord3 c) {e : α → α → Bool} (he : ∀ x y, e x y = true ↔ x = y) {l k m : List α} (hp : k.Perm l) (hs : k.Pairwise fun x y => c x y ≤ 0) (hm : l.Perm m) : cptF e k = insS c [] m :=
  rises_ext h (cpt_rises h he hs) (insS_rises h .nil) fun y => by
    rw [cpt_mem e he, insS_mem h, hp.mem_iff, hm.mem_iff]
    simp
theorem sorted_pw [Inhabited α] (h : ∀ x y, c x y < 0 ↔ 0 < c y x) {d : Array α} (hs : Go.Sort.SortedIn (ltc c) 0 d.size d) : d.toList.Pairwise fun x y => c x y ≤ 0 := by
  rw [List.pairwise_iff_getElem]
  intro i j hi hj hij
  have := hs i j (Nat.zero_le _) hij (by simpa using hj)
  unfold ltc at this
  rw [decide_eq_false_iff_not] at this
  rw [getElem!_pos d i (by simpa using hi), getElem!_pos d j (by simpa using hj)] at this
  have h1 := h (d.toList[i]) (d.toList[j])
  have h2 := h (d.toList[j]) (d.toList[i])
  simp only [Array.getElem_toList] at h1 h2 ⊢
  omega
end

/-! ### The document's finder -/
def lvF (ho : Tm) : List (Li × List Fa) → List Bi → List Fa → List (List Fa)
  | [], _, got => [got]
  | p :: ls, env, got => p.2.flatMap fun x => match litF ho p.1 x env with
    | some e => lvF ho ls e (got ++ [x])
    | none => []
def frm (ho : Tm) : List (Li × List Fa) → List Bi → List Fa → List (List Fa) × Nat → List (List Fa) × Nat
  | [], _, got, s => (insF cmpB got s.1, s.2)
  | p :: ls, env, got, s => p.2.foldl (fun s x => if 30000 < s.2 then s else match litF ho p.1 x env with
    | some e => frm ho ls e (got ++ [x]) (s.1, s.2 + 1)
    | none => (s.1, s.2 + 1)) s
theorem frm_ge (ho : Tm) : ∀ (ls : List (Li × List Fa)) (env : List Bi) (got : List Fa) (s : List (List Fa) × Nat), s.2 ≤ (frm ho ls env got s).2
  | [], env, got, s => Nat.le_refl _
  | p :: ls, env, got, s => by
    unfold frm
    generalize p.2 = l
    induction l generalizing s with
    | nil => exact Nat.le_refl _
    | cons x l ih =>
      rw [List.foldl_cons]
      refine Nat.le_trans ?_ (ih _)
      split
      · exact Nat.le_refl _
      · split
        · exact Nat.le_trans (Nat.le_succ s.2) (frm_ge ho ls _ _ (s.1, s.2 + 1))
        · exact Nat.le_succ _
theorem frm_ok (ho : Tm) : ∀ (ls : List (Li × List Fa)) (env : List Bi) (got : List Fa) (s : List (List Fa) × Nat), (frm ho ls env got s).2 ≤ 30000 →
    (frm ho ls env got s).1 = insS cmpB s.1 (lvF ho ls env got) ∧ (lvF ho ls env got).length + s.2 ≤ (frm ho ls env got s).2 + (if ls = [] then 1 else 0)
  | [], env, got, s, h => ⟨rfl, by simp [lvF, frm]; omega⟩
  | p :: ls, env, got, s, h => by
    rw [if_neg (by simp)]
    unfold frm lvF at *
    generalize p.2 = l at *
    induction l generalizing s with
    | nil => exact ⟨rfl, by simp⟩
    | cons x l ih =>
      rw [List.foldl_cons] at h ⊢
      rw [List.flatMap_cons, insS_app]
      have mono : ∀ (l : List Fa) (s : List (List Fa) × Nat), s.2 ≤ (l.foldl (fun s x => if 30000 < s.2 then s else match litF ho p.1 x env with
          | some e => frm ho ls e (got ++ [x]) (s.1, s.2 + 1)
          | none => (s.1, s.2 + 1)) s).2 := by
        intro l s
        have := frm_ge ho ((p.1, l) :: ls) env got s
        unfold frm at this
        exact this
      have hm := mono l (if 30000 < s.2 then s else match litF ho p.1 x env with
          | some e => frm ho ls e (got ++ [x]) (s.1, s.2 + 1)
          | none => (s.1, s.2 + 1))
      have hs : ¬ 30000 < s.2 := fun hs => by rw [if_pos hs] at hm h; omega
      rw [if_neg hs] at hm h ⊢
      obtain ⟨i1, i2⟩ := ih _ h
      rw [i1, List.length_append]
      cases hx : litF ho p.1 x env with
      | none =>
        rw [hx] at i2
        exact ⟨rfl, by simp only [List.length_nil] at i2 ⊢; omega⟩
      | some e =>
        rw [hx] at i2 hm h
        simp only at i2 hm h ⊢
        obtain ⟨j1, j2⟩ := frm_ok ho ls e (got ++ [x]) (s.1, s.2 + 1) (by omega)
        refine ⟨by rw [j1], ?_⟩
        split at j2 <;> simp only at j2 <;> omega
theorem each_lv (ho : Tm) (bo : List Li) (cand : Nat → List Fa) : ∀ (m k : Nat) (env : List Bi) (got : List Fa), got.length = k + m →
    eachF ho bo cand (List.range' k m) env got = lvF ho ((List.range' k m).map fun i => (bo.getD i .zero, cand i)) env (got.take k)
  | 0, k, env, got, h => by
    rw [Nat.add_zero] at h
    show [got] = [got.take k]
    rw [List.take_of_length_le (by omega)]
  | m + 1, k, env, got, h => by
    rw [List.range'_succ, List.map_cons, eachF, lvF]
    simp only
    congr 1
    funext x
    cases litF ho (bo.getD k .zero) x env with
    | none => rfl
    | some e =>
      simp only
      rw [each_lv ho bo cand m (k + 1) e (got.set k x) (by simp; omega)]
      congr 1
      rw [List.take_add_one, List.take_set_of_le (by omega)]
      simp [show k < got.length by omega]
/-- What was in places that are taken up yet makes no difference. -/
theorem each_got {ho : Tm} {bo : List Li} {cand : Nat → List Fa} : ∀ (o : List Nat) (env : List Bi) (got got' : List Fa), got.length = got'.length → (∀ i, i ∉ o → got[i]? = got'[i]?) → eachF ho bo cand o env got = eachF ho bo cand o env got'
  | [], env, got, got', h, hi => by
    rw [show got = got' from List.ext_getElem? fun i => hi i (by simp)]
  | k :: o, env, got, got', h, hi => by
    rw [eachF, eachF]
    congr 1
    funext x
    cases litF ho (bo.getD k .zero) x env with
    | none => rfl
    | some e =>
      refine each_got o e _ _ (by simpa using h) fun i hin => ?_
      by_cases hk : i = k
      · subst hk
        simp [List.getElem?_set, h]
      · rw [List.getElem?_set_ne (Ne.symm hk), List.getElem?_set_ne (Ne.symm hk)]
        exact hi i (by simp [hk, hin])
end Go.Proofs.YthdfpankebjleaaGreat

/-
  Slices that a walk owns; copies of them; lists of facts held against each other, as the program reckons it.
  Conditions: none.
-/
namespace Go.Proofs.YthdfpankebjleaaGreat
open Go Go.Av

/-- A slice that may be written to: nothing, or a row. -/
def Ow (q : Nat) (σ : St) (v : AV) (es : List (List AV)) : Prop := (es = [] ∧ (v = nilS ∨ v = .fsl q [])) ∨ ∃ b cap, v = slv b es.length cap ∧ es.length ≤ cap ∧ σ b = some (.rows q es false cap)
section
variable {q : Nat} {σ σ' : St} {v : AV} {es : List (List AV)}
theorem Ow.lat (h : Ow q σ v es) : LAt q σ v es := by
  rcases h with ⟨rfl, rfl | rfl⟩ | ⟨b, cap, rfl, h1, h2⟩
  · exact .none
  · exact .full
  · exact .inr (.inr ⟨b, cap, rfl, h1, h2⟩)
theorem Ow.keep (h : Ow q σ v es) (hs : ∀ x o, σ x = some o → Own v x → σ' x = some o) : Ow q σ' v es := by
  rcases h with h | ⟨b, cap, rfl, h1, h2⟩
  · exact .inl h
  · exact .inr ⟨b, cap, rfl, h1, hs _ _ h2 (own_slv.2 rfl)⟩
theorem Ow.sub (h : Ow q σ v es) (hs : ∀ x o, σ x = some o → σ' x = some o) : Ow q σ' v es := h.keep fun x o hx _ => hs x o hx
theorem Ow.of_app {eby : Nat} {s : AV} {es ys : List (List AV)} {k : AV → St → Prop} (h : LAt q σ s es) (hy : ys ≠ []) (hb : (es.length + ys.length) * eby ≤ 140737488355328)
    (hk : ∀ v' σ', Ow q σ' v' (es ++ ys) → (∀ x o, σ x = some o → ¬ Own s x → σ' x = some o ∧ ¬ Own v' x) → (∀ x, Own v' x → ∃ c, σ' x = some (.rows q (es ++ ys) false c)) → k v' σ') : aAppTo q eby ys σ s k :=
  h.app_row hy hb fun b cap σ' h1 h2 h3 => hk _ σ' (.inr ⟨b, cap, by rw [List.length_append], by rw [List.length_append]; exact h1, h2⟩) (fun x o hx hn => ⟨(h3 x o hx hn).1, fun ho => (h3 x o hx hn).2 (own_slv.1 ho)⟩) fun x hx => ⟨cap, by rw [own_slv.1 hx]; exact h2⟩
end
section
variable {σ : St}
@[go_sem] theorem bin_fsl {P : Program} {t : TypeId} {q : Nat} {es : List (List AV)} {K : AV → Prop} : aBin P .eql t (.fsl q es) (.v (.slice none 0 0)) K = (isSl P t = true ∧ (es ≠ [] → K (.v (.bool false))) ∧ (es = [] → ∀ b, K (.v (.bool b)))) := _root_.id rfl
theorem cloneC_at {v : AV} (l : List Cn) (hl : l.length ≤ 1000000000) (hv : Rd 3 σ v (cnC l)) : AT Tryz.prog 73 [v] σ fun r σ' => Ow 3 σ' r (cnC l) ∧ Grow σ σ' r := by
  refine AT.of_body Tryz.func73 rfl (by decide) (by kernel_rfl) (by kernel_rfl) (Nat.le_of_ble_eq_true rfl) ?_
  have hsrc : src 3 false σ v = some (cnC l) := by
    rcases hv with rfl | h
    · simp [src]
    · exact lat_src (by decide) h
  have key : ∀ {k : AV → St → Prop}, (∀ r σ', Ow 3 σ' r (cnC l) → Grow σ σ' r → k r σ') → aAppTo 3 32 (cnC l) σ (.fsl 3 []) k := fun {k} hk => by
    by_cases he : cnC l = []
    · rw [he] at hk ⊢
      exact ⟨rfl, fun _ => hk _ _ (.inl ⟨rfl, .inr rfl⟩) fun y p hy => ⟨hy, own_no_fsl⟩, fun h => absurd rfl h⟩
    · exact Ow.of_app .full he (by rw [cnC_len]; simp only [List.length_nil]; omega) fun lv σ1 h1 h2 _ => hk _ _ h1 fun y p hy => h2 y p hy own_no_fsl
  rcases hv with rfl | ⟨rfl, he⟩ | rfl | ⟨b, cap, rfl, _, _⟩
  case' inr.inl =>
    simp only [go_sem]
    exact aRet_as (r := nilS) rfl ⟨.inl ⟨he, .inl rfl⟩, .nil⟩
  all_goals simp only [go_sem]
  case' inl => refine ⟨fun he => ?_, fun he b => ?_⟩
  case' inr.inr.inl => refine ⟨fun he => ?_, fun he b => ?_⟩
  case' inl.refine_2 => refine aIf_bool (fun _ => ?_) (fun _ => ?_)
  case' inr.inr.inl.refine_2 => refine aIf_bool (fun _ => ?_) (fun _ => ?_)
  case' inl.refine_2.refine_1 =>
    simp only [go_sem]
    exact aRet_as (r := nilS) rfl ⟨.inl ⟨he, .inl rfl⟩, .nil⟩
  case' inr.inr.inl.refine_2.refine_1 =>
    simp only [go_sem]
    exact aRet_as (r := nilS) rfl ⟨.inl ⟨he, .inl rfl⟩, .nil⟩
  case' inl.refine_2.refine_2 => simp only [go_sem]
  case' inr.inr.inl.refine_2.refine_2 => simp only [go_sem]
  case' inr.inr.inr => rw [cnC_len] at hsrc
  all_goals
    refine aApp_by (ys := cnC l) hsrc (by decide) (by decide) (by decide) (key fun lv σ1 h1 h2 => ?_)
    simp only [go_sem]
    exact aRet_as (r := lv) rfl ⟨h1, h2⟩
theorem cloneF_at {v : AV} (l : List Fa) (hl : l.length ≤ 1000000000) (h : ∃ b c, v = slv b l.length c ∧ σ b = some (.rows 4 (faC l) false c)) : AT Tryz.prog 37 [v] σ fun r σ' => Ow 4 σ' r (faC l) ∧ Grow σ σ' r ∧ ∀ x, Own r x → σ x = none := by
  obtain ⟨b, c, rfl, hb⟩ := h
  refine AT.of_body Tryz.func37 rfl (by decide) (by kernel_rfl) (by kernel_rfl) (Nat.le_of_ble_eq_true rfl) ?_
  simp only [go_sem]
  have hsrc : src 4 false σ (slv b l.length c) = some (faC l) := by
    simp only [src, hb]
    rw [if_pos ⟨trivial, by simp, by simp [faC]⟩]
    simp only [Nat.zero_div, List.drop_zero]
    rw [List.take_of_length_le (by rw [faC_len]; omega)]
  by_cases he : faC l = []
  · refine aApp_by (ys := faC l) hsrc (by decide) (by decide) (by decide) ?_
    rw [he]
    refine ⟨rfl, fun _ => ?_, fun h => absurd rfl h⟩
    simp only [go_sem]
    exact aRet_as (r := .fsl 4 []) rfl ⟨.inl ⟨rfl, .inr rfl⟩, fun y p hy => ⟨hy, own_no_fsl⟩, fun x hx => absurd hx own_no_fsl⟩
  · refine aApp_by (ys := faC l) hsrc (by decide) (by decide) (by decide) (Ow.of_app .full he (by rw [faC_len]; simp only [List.length_nil]; omega) fun lv σ1 h1 h2 _ => ?_)
    simp only [go_sem]
    have hG : Grow σ σ1 lv := fun y p hy => h2 y p hy own_no_fsl
    exact aRet_as (r := lv) rfl ⟨h1, hG, fun x hx => hG.own hx⟩
theorem cmpFs_at {a b : List Fa} {v w : AV} (ha : Rd 4 σ v (faC a)) (hb : Rd 4 σ w (faC b)) (sa : SmB a) (sb : SmB b) : AT Tryz.prog 128 [v, w, fnv 41] σ fun r σ' => r = int (cmpB a b) ∧ σ' = σ := by
  refine AT.of_body Tryz.func128 rfl (by decide) (by kernel_rfl) (by kernel_rfl) (Nat.le_of_ble_eq_true rfl) ?_
  have s1 := sa.1
  have s2 := sb.1
  simp only [go_sem, r_block, ha.len, faC_len]
  refine ⟨fun m fr σ' => ∃ i : Nat, m = a.length - i ∧ i ≤ a.length ∧ i ≤ b.length ∧ (∀ x o, σ x = some o → σ' x = some o) ∧ cmpL cmpF (a.drop i) (b.drop i) = cmpL cmpF a b ∧ fr 0 = v ∧ fr 1 = w ∧ fr 2 = fnv 41 ∧ fr 11 = v ∧ fr 12 = int a.length ∧ fr 13 = int i, ⟨_, 0, rfl, by omega, by omega, fun _ _ h => h, rfl, rfl, rfl, rfl, rfl, rfl, rfl⟩, ?_⟩
  rintro m fr σ1 ⟨i, rfl, h1, h2, hs, hI, f0, f1, f2, f11, f12, f13⟩
  have c0 : Ctx σ [] σ1 := ⟨hs, fun p hp => (by cases hp), fun p hp => (by cases hp), List.nodup_nil⟩
  have ha1 := ha.keep hs
  have hb1 := hb.keep hs
  simp only [go_sem, f12, f13]
  refine aIf_by (fun hlt => ?_) (fun hlt => ?_)
  · have hia : i < a.length := by omega
    simp only [go_sem, r_block, f11, f13]
    refine ha1.elem (by omega) (by rw [faC_len]; omega) fun p hp => ?_
    simp only [go_sem, r_block]
    refine hp.load (by decide) (by rw [Int.toNat_natCast, faC_get hia]; exact Nat.le_refl 4) ?_
    simp only [go_sem, r_block, faC_get hia]
    refine c0.alloc fun t8 σ2 c1 => ?_
    obtain ⟨σ3, e3, c2⟩ := c1.abs 0 rfl (.cells a[i].cs)
    have hb2 := hb.keep c2.sub
    simp only [go_sem, r_block, c1.g0, e3, f1, hb1.len, faC_len]
    by_cases hib : i < b.length
    · have d := decide_eq_false (show ¬ (b.length : Int) ≤ i by omega)
      simp only [go_sem, r_block, f1, f13, d]
      refine hb2.elem (by omega) (by rw [faC_len]; omega) fun p' hp' => ?_
      simp only [go_sem, r_block]
      refine hp'.load (by decide) (by rw [Int.toNat_natCast, faC_get hib]; exact Nat.le_refl 4) ?_
      simp only [go_sem, r_block, faC_get hib]
      refine c2.alloc fun t9 σ4 c3 => ?_
      obtain ⟨σ5, e5, c4⟩ := c3.abs 0 rfl (.cells b[i].cs)
      simp only [go_sem, r_block, c3.g1, e5, c4.g1, f2]
      refine (cmpF_at a[i] b[i] (sa.2 _ (List.getElem_mem hia)) (sb.2 _ (List.getElem_mem hib))).mono ?_
      rintro _ σ5 ⟨rfl, rfl⟩
      simp only [go_sem, r_block]
      rw [cmpL_step hia hib] at hI
      refine aIf_by (fun h0 => ?_) (fun h0 => ?_)
      · rw [if_pos h0] at hI
        simp only [go_sem, r_block, f0, f1, f2, f11, f12, f13, next64 (show i < 9223372036854775807 by omega)]
        refine ⟨a.length - (i + 1), by omega, i + 1, ?_⟩
        have hs' := c4.sub
        (and_intros <;> first | assumption | rfl | omega)
      · rw [if_neg h0] at hI
        simp only [go_sem, r_block]
        exact aRet_view (r := int _) rfl _ σ (c4.view _) ⟨by unfold cmpB; rw [← hI], rfl⟩
    · have d := decide_eq_true (show (b.length : Int) ≤ i by omega)
      have fin : cmpB a b = 1 := by
        unfold cmpB
        rw [← hI, cmpL_end h1 h2 (by omega), if_neg (by omega), if_pos (by omega)]
      simp only [go_sem, r_block, f1, f13, d]
      exact aRet_view (r := int 1) rfl _ σ (c2.view _) ⟨by rw [fin], rfl⟩
  · have fin : cmpB a b = if a.length < b.length then -1 else 0 := by
      unfold cmpB
      rw [← hI, cmpL_end h1 h2 (by omega), if_neg (show ¬ b.length < a.length by omega)]
    simp only [go_sem, r_block, f0, f1, ha1.len, hb1.len, faC_len]
    refine aIf_by (fun h0 => ?_) (fun h0 => ?_)
    · rw [if_pos (by omega)] at fin
      simp only [go_sem, r_block]
      exact aRet_view (r := int (-1)) rfl _ σ (c0.view _) ⟨by rw [fin], rfl⟩
    · rw [if_neg (by omega)] at fin
      simp only [go_sem, r_block]
      exact aRet_view (r := int 0) rfl _ σ (c0.view _) ⟨by rw [fin], rfl⟩
theorem orderB_at {a b : List Fa} {v w : AV} (ha : Rd 4 σ v (faC a)) (hb : Rd 4 σ w (faC b)) (sa : SmB a) (sb : SmB b) : AT Tryz.prog 97 [v, w] σ fun r σ' => r = int (cmpB a b) ∧ σ' = σ := by
  refine AT.of_body Tryz.func97 rfl (by decide) (by kernel_rfl) (by kernel_rfl) (Nat.le_of_ble_eq_true rfl) ?_
  simp only [go_sem]
  refine (cmpFs_at ha hb sa sb).mono ?_
  rintro _ σ' ⟨rfl, rfl⟩
  simp only [go_sem]
  exact aRet_as (r := int _) rfl ⟨rfl, rfl⟩
theorem eqB_at {a b : List Fa} {v w : AV} (ha : Rd 4 σ v (faC a)) (hb : Rd 4 σ w (faC b)) (sa : SmB a) (sb : SmB b) : AT Tryz.prog 99 [v, w] σ fun r σ' => r = boo (decide (a = b)) ∧ σ' = σ := by
  refine AT.of_body Tryz.func99 rfl (by decide) (by kernel_rfl) (by kernel_rfl) (Nat.le_of_ble_eq_true rfl) ?_
  simp only [go_sem]
  refine (orderB_at ha hb sa sb).mono ?_
  rintro _ σ' ⟨rfl, rfl⟩
  simp only [go_sem]
  exact aRet_as (r := boo _) rfl ⟨by rw [decide_eq_decide.2 (cmpB_ord.zero a b)], rfl⟩
end
end Go.Proofs.YthdfpankebjleaaGreat

/-
  In which order literals are looked for (package plan, and the document's): the small functions.
  Conditions: none.
-/
namespace Go.Proofs.YthdfpankebjleaaGreat
open Go Go.Av

instance memDec (s : ByteArray) (l : List ByteArray) : Decidable (s ∈ l) := @List.instDecidableMemOfLawfulBEq ByteArray instBEqOfDecidableEq inferInstance s l
/-- Is a term known by some variables? -/
def kn (t : Tm) (vs : List ByteArray) : Nat := if t ≠ .zero ∧ (t.v = emp ∨ t.v ∈ vs) then 1 else 0
def knS (l : List Tm) (vs : List ByteArray) : Nat := (l.map (kn · vs)).sum
def knL (l : Li) (vs : List ByteArray) : Nat := knS (l.by' :: l.ar) vs
/-- The variables, and a literal's. -/
def ofLi (l : Li) (vs : List ByteArray) : List ByteArray := vs ++ l.by'.v :: l.at'.v :: l.ar.map Tm.v
theorem kn_le (t : Tm) (vs : List ByteArray) : kn t vs ≤ 1 := by unfold kn; split <;> omega
theorem knS_le (vs : List ByteArray) : ∀ l : List Tm, knS l vs ≤ l.length
  | [] => by simp [knS]
  | t :: l => by
    have := knS_le vs l
    have := kn_le t vs
    simp only [knS, List.map_cons, List.sum_cons, List.length_cons] at *
    omega
theorem knS_take (vs : List ByteArray) {l : List Tm} {i : Nat} (h : i < l.length) : knS (l.take (i + 1)) vs = knS (l.take i) vs + kn l[i] vs := by
  unfold knS
  rw [List.take_add_one, List.getElem?_eq_getElem h]
  simp only [List.map_append, List.sum_append, Option.toList, List.map_cons, List.map_nil, List.sum_cons, List.sum_nil, Nat.add_zero]

section
variable {σ : St} {lv : AV}
/-- The same numbers. -/
theorem ints_at (l : List Int) (hl : l.length ≤ 1000000000) : AT Tryz.prog 50 [.sl 1 (inC l), .sl 1 (inC l)] σ fun r σ' => r = boo true ∧ σ' = σ := by
  refine AT.of_body Tryz.func50 rfl (by decide) (by kernel_rfl) (by kernel_rfl) (Nat.le_of_ble_eq_true rfl) ?_
  simp only [go_sem, r_block]
  refine ⟨fun m fr σ' => ∃ i : Nat, m = l.length - i ∧ i ≤ l.length ∧ σ' = σ ∧ fr 0 = .sl 1 (inC l) ∧ fr 1 = .sl 1 (inC l) ∧ fr 5 = int i, ⟨_, 0, rfl, by omega, rfl, rfl, rfl, rfl⟩, ?_⟩
  rintro m fr σ ⟨i, rfl, h1, rfl, f0, f1, f5⟩
  simp only [go_sem, f0, f1, f5]
  refine aIf_by (fun hlt => ?_) (fun hlt => ?_)
  · simp only [go_sem, r_block, f0, f1, f5]
    refine aDraw_plan [.rd 0 false, .rd 1 false, .rd 2 false, .rd 3 true, .rd 4 false, .rd 5 false, .rd 6 false, .rd 7 true, .rd 8 false] (by kernel_rfl) (by kernel_rfl) (by kernel_rfl) ?_
    have hi : i < l.length := by omega
    simp only [go_sem, r_block, f0, f1, f5, inC_get hi, next64 (show i < 9223372036854775807 by omega)]
    exact ⟨by omega, by omega, l.length - (i + 1), by omega, i + 1, rfl, by omega, rfl⟩
  · simp only [go_sem, r_block, f0, f1, f5]
    exact aRet_as (r := boo true) rfl ⟨rfl, rfl⟩
/-- Where a text lies first. -/
theorem index_at {l : List ByteArray} {s : ByteArray} (hl : l.length ≤ 1000000000) (h : Rd 1 σ lv (stC l)) : AT Tryz.prog 91 [lv, str s] σ fun r σ' => σ' = σ ∧ ((s ∈ l ∧ ∃ i : Nat, r = int i) ∨ (s ∉ l ∧ r = int (-1))) := by
  refine AT.of_body Tryz.func91 rfl (by decide) (by kernel_rfl) (by kernel_rfl) (Nat.le_of_ble_eq_true rfl) ?_
  simp only [go_sem, r_block, h.len]
  refine ⟨fun m fr σ' => ∃ i : Nat, m = l.length - i ∧ i ≤ l.length ∧ σ' = σ ∧ fr 0 = lv ∧ fr 1 = str s ∧ fr 8 = int i ∧ fr 7 = int l.length ∧ s ∉ l.take i, ⟨_, 0, rfl, by omega, rfl, rfl, rfl, rfl, rfl, by simp⟩, ?_⟩
  rintro m fr σ ⟨i, rfl, h1, rfl, f0, f1, f8, f7, g⟩
  simp only [go_sem, f0, f1, f8, f7]
  refine aIf_by (fun hlt => ?_) (fun hlt => ?_)
  · have hi : i < l.length := by omega
    simp only [go_sem, r_block, f0, f1, f8]
    refine h.elem (by omega) (by rw [stC_len]; omega) fun p hp => ?_
    simp only [go_sem, r_block]
    refine hp.load1 (by omega) (by rw [Int.toNat_natCast, stC_get hi]; simp) ?_
    simp only [go_sem, r_block, f0, f1, f8, f7, stC_get hi]
    refine aIf_by (fun he => ?_) (fun he => ?_)
    · simp only [go_sem, r_block]
      exact aRet_as (r := int i) rfl ⟨rfl, .inl ⟨he ▸ List.getElem_mem hi, i, rfl⟩⟩
    · simp only [go_sem, r_block, f0, f1, f8, f7, next64 (show i < 9223372036854775807 by omega)]
      refine ⟨l.length - (i + 1), by omega, i + 1, rfl, by omega, rfl, ?_⟩
      rw [List.take_add_one, List.getElem?_eq_getElem hi]
      simp only [Option.toList, List.mem_append, List.mem_singleton, not_or]
      exact ⟨g, fun e => he e⟩
  · simp only [go_sem, r_block, f0, f1, f8]
    rw [List.take_of_length_le (by omega)] at g
    exact aRet_as (r := int (-1)) rfl ⟨rfl, .inr ⟨g, rfl⟩⟩
theorem has_at {l : List ByteArray} {s : ByteArray} (hl : l.length ≤ 1000000000) (h : Rd 1 σ lv (stC l)) : AT Tryz.prog 48 [lv, str s] σ fun r σ' => r = boo (decide (s ∈ l)) ∧ σ' = σ := by
  refine AT.of_body Tryz.func48 rfl (by decide) (by kernel_rfl) (by kernel_rfl) (Nat.le_of_ble_eq_true rfl) ?_
  simp only [go_sem, r_block]
  refine (index_at hl h).mono ?_
  rintro _ σ ⟨rfl, hs⟩
  rcases hs with ⟨hs, i, rfl⟩ | ⟨hs, rfl⟩
  · simp only [go_sem, r_block]
    exact aRet_as (r := boo (decide ((0 : Int) ≤ i))) rfl ⟨by rw [decide_eq_true hs, decide_eq_true (by omega)], rfl⟩
  · simp only [go_sem, r_block]
    exact aRet_as (r := boo (decide ((0 : Int) ≤ -1))) rfl ⟨by rw [decide_eq_false hs]; rfl, rfl⟩
theorem tm_ne {K : AV → Prop} {t : Tm} (h : K (boo (!decide (t = .zero)))) : aAgg Tryz.prog true 40 (.agg t.cs) (.agg Tm.zero.cs) K := by
  refine agg_by (ls := [.s, .b, .i .i64, .s]) (vs := [.string t.v, .bool t.b, .int .i64 t.n, .string t.s]) (ws := [.string emp, .bool false, .int .i64 0, .string emp]) (by kernel_rfl) (by kernel_rfl) (by kernel_rfl) rfl rfl rfl rfl (by simp [Fit, Leaf.ok]) (by simp [Fit, Leaf.ok]) ?_
  rcases t with ⟨v, b, n, s⟩
  simpa [eqL, eqLeaf, Tm.zero] using h
end
end Go.Proofs.YthdfpankebjleaaGreat

/-
  The weight of rules: what weighs little is small in all its parts.
  Conditions: none.
-/
namespace Go.Proofs.YthdfpankebjleaaGreat
open Go Go.Av

/-- What can lie in memory. -/
def Li.Wf (l : Li) : Prop := l.ar.length ≤ 140737488351232 ∧ l.nm.size ≤ 140737488351232
def Rl.Wf (r : Rl) : Prop := r.ar.length ≤ 140737488351232 ∧ r.nm.size ≤ 140737488351232 ∧ r.bo.length ≤ 140737488351232 ∧ ∀ l ∈ r.bo, l.Wf
/-- Small in its parts. -/
def Rl.Sm (r : Rl) (n : Int) : Prop := r.ar.length ≤ n ∧ r.bo.length ≤ n ∧ ∀ l ∈ r.bo, l.ar.length ≤ n
def Rl.S3 (r : Rl) : Prop := r.bo.length ≤ 300 ∧ ∀ l ∈ r.bo, l.ar.length ≤ 300
theorem Rl.Sm.up {r : Rl} {n m : Int} (h : r.Sm n) (hm : n ≤ m) : r.Sm m := ⟨by have := h.1; omega, by have := h.2.1; omega, fun l hl => by have := h.2.2 l hl; omega⟩
def rlC (l : List Rl) : List (List AV) := l.map Rl.cs
@[go_sem] theorem rlC_len (l : List Rl) : (rlC l).length = l.length := by simp [rlC]
theorem rlC_get {l : List Rl} {i : Nat} (h : i < l.length) : (rlC l).getD i [] = l[i].cs := by simp [rlC, List.getD_eq_getElem?_getD, h]
theorem fsl_weak {q : Nat} {σ : St} {es : List (List AV)} {l : List AV} : VWs σ σ (.fsl q es :: l) (.sl q es :: l) :=
  vws_cons (LAt.full.vw_same fun x ⟨n, c, e⟩ => by cases e) (vws_refl _)
theorem quo16 (n : Nat) : ((n : Int)).tdiv 16 = ((n / 16 : Nat) : Int) := by
  rw [Int.tdiv_eq_ediv_of_nonneg (by omega)]; rfl
theorem weigh {n : Int} {a b : Nat} (h0 : 0 ≤ n) (h1 : n ≤ 1000000) (ha : a ≤ 140737488351232) (hb : b ≤ 140737488351232) : IntKind.i64.wrap (n + IntKind.i64.wrap (IntKind.i64.wrap (1 + (a : Int)) + IntKind.i64.wrap (((b : Int)).tdiv 16))) = n + (1 + a + (b / 16 : Nat)) := by
  rw [quo16, wrap64 (x := ((b / 16 : Nat) : Int)) (by omega), wrap64 (x := 1 + (a : Int)) (by omega), wrap64 (x := 1 + (a : Int) + ((b / 16 : Nat) : Int)) (by omega), wrap64 (by omega)]

section
variable {σ : St}
theorem weightN_at (l : List Rl) (most : Int) (hl : l.length ≤ 140737488351232) (hw : ∀ r ∈ l, r.Wf) (h0 : 0 ≤ most) (h1 : most ≤ 1000000) : AT Tryz.prog 17 [.sl 11 (rlC l), int most] σ fun v σ' => (∃ w : Int, v = int w ∧ (w ≤ most → l.length ≤ most ∧ ∀ r ∈ l, r.Sm most)) ∧ σ' = σ := by
  refine AT.of_body Tryz.func17 rfl (by decide) (by kernel_rfl) (by kernel_rfl) (Nat.le_of_ble_eq_true rfl) ?_
  simp only [go_sem, r_block]
  refine ⟨fun m fr σ' => ∃ (i : Nat) (n : Int), m = l.length - i ∧ i ≤ l.length ∧ σ' = σ ∧ 0 ≤ n ∧ n ≤ 10000000000000000 ∧ (most < n ∨ i ≤ n ∧ ∀ r ∈ l.take i, r.Sm n) ∧ fr 0 = .sl 11 (rlC l) ∧ fr 1 = int most ∧ fr 5 = int n ∧ fr 6 = int i, ⟨_, 0, 0, rfl, by omega, rfl, by omega, by omega, .inr ⟨by omega, fun r hr => by simp at hr⟩, rfl, rfl, rfl, rfl⟩, ?_⟩
  rintro m fr σ ⟨i, n, rfl, hi, rfl, hn, hm, hs, f0, f1, f5, f6⟩
  have fin : ∀ (h : n ≤ most), i = l.length → l.length ≤ most ∧ ∀ r ∈ l, r.Sm most := fun h e => by
    subst e
    rw [List.take_of_length_le (Nat.le_refl _)] at hs
    obtain ⟨h1, h2⟩ := hs.resolve_left (by omega)
    exact ⟨by omega, fun r hr => (h2 r hr).up h⟩
  by_cases g1 : (i : Int) < l.length
  · by_cases g2 : n ≤ most
    · have hil : i < l.length := by omega
      have hwi := hw _ (List.getElem_mem hil)
      simp only [go_sem, r_block, f0, f1, f5, f6, decide_eq_true g1, decide_eq_true g2]
      refine aDraw_plan [.rd 0 false, .rd 1 false, .rd 2 false, .rd 3 false, .rd 4 false, .rd 5 true, .rd 6 false, .rd 7 false, .rd 8 false, .rd 9 false, .rd 10 false, .rd 11 false, .rd 12 true, .rd 13 false, .rd 14 false, .rd 15 false, .rd 16 false, .rd 17 false] (by kernel_rfl) (by kernel_rfl) (by kernel_rfl) ?_
      simp only [go_sem, r_block, f0, f1, f5, f6, rlC_get hil, weigh hn (show n ≤ 1000000 by omega) hwi.1 hwi.2.1]
      obtain ⟨n1, hn1⟩ : ∃ n1 : Int, n1 = n + (1 + l[i].ar.length + (l[i].nm.size / 16 : Nat)) := ⟨_, rfl⟩
      have hq := hwi.1
      have hq2 := hwi.2.1
      have hq3 := hwi.2.2.1
      have hs0 : (i : Int) + 1 ≤ n1 := by have := (hs.resolve_left (by omega)).1; omega
      have hs : ∀ r ∈ l.take i, r.Sm n1 := fun r hr => ((hs.resolve_left (by omega)).2 r hr).up (by omega)
      rw [← hn1]
      refine ⟨by omega, by omega, ?_⟩
      refine ⟨fun m fr σ' => ∃ (k : Nat) (n' : Int), m = l[i].bo.length - k ∧ k ≤ l[i].bo.length ∧ σ' = σ ∧ n1 ≤ n' ∧ n' ≤ 10000000000000000 ∧ (most < n' ∨ (k ≤ n' ∧ ∀ x ∈ l[i].bo.take k, (x.ar.length : Int) ≤ n')) ∧ fr 0 = .sl 11 (rlC l) ∧ fr 1 = int most ∧ fr 5 = int n' ∧ fr 6 = int i ∧ fr 7 = int k, ⟨_, 0, n1, rfl, by omega, rfl, by omega, by omega, .inr ⟨by omega, fun x hx => by simp at hx⟩, f0, f1, rfl, f6, rfl⟩, ?_⟩
      clear f0 f1 f5 f6 fr
      rintro m fr σ ⟨k, n', rfl, hk, rfl, hn', hm', hs', f0, f1, f5, f6, f7⟩
      by_cases g3 : (k : Int) < l[i].bo.length
      · by_cases g4 : n' ≤ most
        · have hkl : k < l[i].bo.length := by omega
          have hwk := hwi.2.2.2 _ (List.getElem_mem hkl)
          have hk1 := hwk.1
          have hk2 := hwk.2
          simp only [go_sem, r_block, f0, f1, f5, f6, f7, rlC_get hil, decide_eq_true g3, decide_eq_true g4]
          refine ⟨by omega, ?_⟩
          refine aDraw_plan [.rd 0 false, .rd 1 false, .rd 2 false, .rd 3 false, .rd 4 false, .rd 5 true, .rd 6 false, .rd 7 false, .rd 8 false, .rd 9 true, .rd 10 false, .rd 11 false, .rd 12 false, .rd 13 false, .rd 14 false, .rd 15 false, .rd 16 true, .rd 17 false, .rd 18 false, .rd 19 false, .rd 20 true, .rd 21 false, .rd 22 false, .rd 23 false, .rd 24 false, .rd 25 false] (by kernel_rfl) (by kernel_rfl) (by kernel_rfl) ?_
          simp only [go_sem, r_block, f0, f1, f5, f6, f7, rlC_get hil, liC_get hkl, weigh (show 0 ≤ n' by omega) (show n' ≤ 1000000 by omega) hwk.1 hwk.2, next64 (show k < 9223372036854775807 by omega)]
          refine ⟨by omega, by omega, by omega, by omega, l[i].bo.length - (k + 1), by omega, k + 1, _, rfl, by omega, ?_, ?_, ?_, rfl, rfl⟩
          · omega
          · omega
          · refine .inr ⟨by have := hs'.resolve_left (by omega); omega, fun x hx => ?_⟩
            rw [List.take_add_one, List.getElem?_eq_getElem hkl] at hx
            rcases List.mem_append.1 hx with hx | hx
            · have := (hs'.resolve_left (by omega)).2 x hx; omega
            · simp at hx; subst hx; omega
        · simp only [go_sem, r_block, f0, f1, f5, f6, f7, rlC_get hil, decide_eq_true g3, decide_eq_false g4, next64 (show i < 9223372036854775807 by omega)]
          exact ⟨by omega, l.length - (i + 1), by omega, i + 1, n', rfl, by omega, by omega, by omega, .inl (by omega), rfl, rfl⟩
      · simp only [go_sem, r_block, f0, f1, f5, f6, f7, rlC_get hil, decide_eq_false g3, next64 (show i < 9223372036854775807 by omega)]
        refine ⟨by omega, l.length - (i + 1), by omega, i + 1, n', rfl, by omega, by omega, by omega, ?_, rfl, rfl⟩
        refine hs'.imp _root_.id fun hs' => ⟨by omega, fun r hr => ?_⟩
        rw [List.take_add_one, List.getElem?_eq_getElem hil] at hr
        rw [List.take_of_length_le (show l[i].bo.length ≤ k by omega)] at hs'
        rcases List.mem_append.1 hr with hr | hr
        · exact (hs r hr).up hn'
        · simp at hr; subst hr; exact ⟨by omega, by omega, hs'.2⟩
    · simp only [go_sem, r_block, f0, f1, f5, f6, decide_eq_true g1, decide_eq_false g2]
      exact aRet_as (r := int n) rfl ⟨⟨n, rfl, fun h => by omega⟩, rfl⟩
  · simp only [go_sem, r_block, f0, f1, f5, f6, decide_eq_false g1]
    exact aRet_as (r := int n) rfl ⟨⟨n, rfl, fun h => fin h (by omega)⟩, rfl⟩
theorem weight_at (l : List Rl) (most : Int) (hl : l.length ≤ 140737488351232) (hw : ∀ r ∈ l, r.Wf) (h0 : 0 ≤ most) (h1 : most ≤ 1000000) : AT Tryz.prog 17 [.sl 11 (rlC l), int most] σ fun v σ' => (∃ w : Int, v = int w ∧ (w ≤ most → ∀ r ∈ l, r.Sm most)) ∧ σ' = σ :=
  (weightN_at l most hl hw h0 h1).mono fun v σ' ⟨⟨w, h1, h2⟩, h3⟩ => ⟨⟨w, h1, fun h => (h2 h).2⟩, h3⟩
end
end Go.Proofs.YthdfpankebjleaaGreat

/-
  The weight of facts; copies of facts; facts that are spoilt; the document's bodies.
  Conditions: none.
-/
namespace Go.Proofs.YthdfpankebjleaaGreat
open Go Go.Av

/-- What can lie in memory. -/
def Cn.Wf (c : Cn) : Prop := c.s.size ≤ 140737488351232
def Fa.Wf (f : Fa) : Prop := f.ar.length ≤ 140737488351232 ∧ f.at'.size ≤ 140737488351232 ∧ f.by'.size ≤ 140737488351232 ∧ f.pr.size ≤ 140737488351232 ∧ ∀ c ∈ f.ar, c.Wf
theorem weighF {n : Int} {a s1 s2 s3 : Nat} (h0 : 0 ≤ n) (h1 : n ≤ 1000000) (ha : a ≤ 140737488351232) (b1 : s1 ≤ 140737488351232) (b2 : s2 ≤ 140737488351232) (b3 : s3 ≤ 140737488351232) :
    IntKind.i64.wrap (n + IntKind.i64.wrap (IntKind.i64.wrap (1 + (a : Int)) + IntKind.i64.wrap ((IntKind.i64.wrap (IntKind.i64.wrap ((s1 : Int) + s2) + s3)).tdiv 16))) = n + (1 + a + ((s1 + s2 + s3) / 16 : Nat)) := by
  rw [wrap64 (x := (s1 : Int) + s2) (by omega), wrap64 (x := (s1 : Int) + s2 + s3) (by omega), show ((s1 : Int) + s2 + s3) = ((s1 + s2 + s3 : Nat) : Int) by omega, quo16, wrap64 (x := (((s1 + s2 + s3) / 16 : Nat) : Int)) (by omega), wrap64 (x := 1 + (a : Int)) (by omega), wrap64 (x := 1 + (a : Int) + (((s1 + s2 + s3) / 16 : Nat) : Int)) (by omega), wrap64 (by omega)]
theorem weighS {n : Int} {s : Nat} (h0 : 0 ≤ n) (h1 : n ≤ 1000000) (b : s ≤ 140737488351232) : IntKind.i64.wrap (n + IntKind.i64.wrap ((s : Int).tdiv 16)) = n + (s / 16 : Nat) := by
  rw [quo16, wrap64 (x := ((s / 16 : Nat) : Int)) (by omega), wrap64 (by omega)]
section
variable {σ : St}
theorem fweight_at (l : List Fa) (most : Int) (hl : l.length ≤ 140737488351232) (hw : ∀ f ∈ l, f.Wf) (h0 : 0 ≤ most) (h1 : most ≤ 1000000) : AT Tryz.prog 16 [.sl 4 (faC l), int most] σ fun v σ' => (∃ w : Int, v = int w ∧ (w ≤ most → l.length ≤ most ∧ ∀ f ∈ l, (f.ar.length : Int) ≤ most)) ∧ σ' = σ := by
  refine AT.of_body Tryz.func16 rfl (by decide) (by kernel_rfl) (by kernel_rfl) (Nat.le_of_ble_eq_true rfl) ?_
  simp only [go_sem, r_block]
  refine ⟨fun m fr σ' => ∃ (i : Nat) (n : Int), m = l.length - i ∧ i ≤ l.length ∧ σ' = σ ∧ 0 ≤ n ∧ n ≤ 10000000000000000 ∧ (most < n ∨ i ≤ n ∧ ∀ f ∈ l.take i, (f.ar.length : Int) ≤ n) ∧ fr 0 = .sl 4 (faC l) ∧ fr 1 = int most ∧ fr 5 = int n ∧ fr 6 = int i, ⟨_, 0, 0, rfl, by omega, rfl, by omega, by omega, .inr ⟨by omega, fun r hr => by simp at hr⟩, rfl, rfl, rfl, rfl⟩, ?_⟩
  rintro m fr σ ⟨i, n, rfl, hi, rfl, hn, hm, hs, f0, f1, f5, f6⟩
  by_cases g1 : (i : Int) < l.length
  · by_cases g2 : n ≤ most
    · have hil : i < l.length := by omega
      have hwi := hw _ (List.getElem_mem hil)
      obtain ⟨hs0, hs⟩ := hs.resolve_left (by omega)
      simp only [go_sem, r_block, f0, f1, f5, f6, decide_eq_true g1, decide_eq_true g2]
      refine aDraw_plan [.rd 0 false, .rd 1 false, .rd 2 false, .rd 3 false, .rd 4 false, .rd 5 true, .rd 6 false, .rd 7 false, .rd 8 false, .rd 9 false, .rd 10 false, .rd 11 false, .rd 12 true, .rd 13 false, .rd 14 false, .rd 15 false, .rd 16 false, .rd 17 false, .rd 18 true, .rd 19 false, .rd 20 false, .rd 21 false, .rd 22 false, .rd 23 false, .rd 24 false, .rd 25 true, .rd 26 false, .rd 27 false, .rd 28 false, .rd 29 false, .rd 30 false, .rd 31 false] (by kernel_rfl) (by kernel_rfl) (by kernel_rfl) ?_
      obtain ⟨X, hX⟩ : ∃ X, X = l[i] := ⟨_, rfl⟩
      have eg : (faC l).getD i [] = X.cs := by rw [hX]; exact faC_get hil
      rw [← hX] at hwi
      have ew := weighF hn (show n ≤ 1000000 by omega) hwi.1 hwi.2.1 hwi.2.2.1 hwi.2.2.2.1
      simp only [go_sem, r_block, f0, f1, f5, f6, eg, ew]
      obtain ⟨n1, hn1⟩ : ∃ n1 : Int, n1 = n + (1 + X.ar.length + ((X.at'.size + X.by'.size + X.pr.size) / 16 : Nat)) := ⟨_, rfl⟩
      have hq := hwi.1
      have hq2 := hwi.2.1
      have hq3 := hwi.2.2.1
      have hq4 := hwi.2.2.2.1
      have hs : ∀ f ∈ l.take (i + 1), (f.ar.length : Int) ≤ n1 := fun f hf => by
        rw [List.take_add_one, List.getElem?_eq_getElem hil] at hf
        rcases List.mem_append.1 hf with hf | hf
        · have := hs f hf; omega
        · simp at hf; subst hf; rw [← hX]; omega
      rw [← hn1]
      refine ⟨by omega, by omega, by omega, by omega, ?_⟩
      refine ⟨fun m fr σ' => ∃ (k : Nat) (n' : Int), m = X.ar.length - k ∧ k ≤ X.ar.length ∧ σ' = σ ∧ n1 ≤ n' ∧ n' ≤ 10000000000000000 ∧ fr 0 = .sl 4 (faC l) ∧ fr 1 = int most ∧ fr 5 = int n' ∧ fr 6 = int i ∧ fr 7 = int k, ⟨_, 0, n1, rfl, by omega, rfl, by omega, by omega, f0, f1, rfl, f6, rfl⟩, ?_⟩
      clear f0 f1 f5 f6 fr
      rintro m fr σ ⟨k, n', rfl, hk, rfl, hn', hm', f0, f1, f5, f6, f7⟩
      have nx : ∃ m', m' < l.length - i ∧ ∃ (i' : Nat) (n'' : Int), m' = l.length - i' ∧ i' ≤ l.length ∧ 0 ≤ n'' ∧ n'' ≤ 10000000000000000 ∧ (most < n'' ∨ i' ≤ n'' ∧ ∀ f ∈ l.take i', (f.ar.length : Int) ≤ n'') ∧ n'' = n' ∧ i' = i + 1 :=
        ⟨l.length - (i + 1), by omega, i + 1, n', rfl, by omega, by omega, by omega, .inr ⟨by omega, fun f hf => by have := hs f hf; omega⟩, rfl, rfl⟩
      by_cases g3 : (k : Int) < X.ar.length
      · by_cases g4 : n' ≤ most
        · have hkl : k < X.ar.length := by omega
          have hwk := hwi.2.2.2.2 _ (List.getElem_mem hkl)
          unfold Cn.Wf at hwk
          have ew2 := weighS (show 0 ≤ n' by omega) (show n' ≤ 1000000 by omega) hwk
          simp only [go_sem, r_block, f0, f1, f5, f6, f7, eg, decide_eq_true g3, decide_eq_true g4, cnC_get hkl, ew2, next64 (show k < 9223372036854775807 by omega)]
          refine ⟨by omega, by omega, by omega, X.ar.length - (k + 1), by omega, k + 1, _, rfl, by omega, ?_, ?_, rfl, rfl⟩
          · omega
          · omega
        · simp only [go_sem, r_block, f0, f1, f5, f6, f7, eg, decide_eq_true g3, decide_eq_false g4, next64 (show i < 9223372036854775807 by omega)]
          obtain ⟨m', h1, i', n'', h2, h3, h4, h5, h6, rfl, rfl⟩ := nx
          exact ⟨by omega, m', h1, i + 1, n'', h2, h3, h4, h5, h6, rfl, rfl⟩
      · simp only [go_sem, r_block, f0, f1, f5, f6, f7, eg, decide_eq_false g3, next64 (show i < 9223372036854775807 by omega)]
        obtain ⟨m', h1, i', n'', h2, h3, h4, h5, h6, rfl, rfl⟩ := nx
        exact ⟨by omega, m', h1, i + 1, n'', h2, h3, h4, h5, h6, rfl, rfl⟩
    · simp only [go_sem, r_block, f0, f1, f5, f6, decide_eq_true g1, decide_eq_false g2]
      exact aRet_as (r := int n) rfl ⟨⟨n, rfl, fun h => by omega⟩, rfl⟩
  · simp only [go_sem, r_block, f0, f1, f5, f6, decide_eq_false g1]
    refine aRet_as (r := int n) rfl ⟨⟨n, rfl, fun h => ?_⟩, rfl⟩
    have hs := hs.resolve_left (by omega)
    rw [List.take_of_length_le (by omega)] at hs
    exact ⟨by omega, fun f hf => by have := hs.2 f hf; omega⟩
end
end Go.Proofs.YthdfpankebjleaaGreat

/-
  Copies of facts; what a walk owns, seen as less.
  Conditions: none.
-/
namespace Go.Proofs.YthdfpankebjleaaGreat
open Go Go.Av

theorem Rd.keepO {q : Nat} {σ σ' : St} {a : AV} {es : List (List AV)} (h : Rd q σ a es) (hs : ∀ x o, σ x = some o → Own a x → σ' x = some o) : Rd q σ' a es := h.imp _root_.id fun h => h.keep hs
theorem Rd.own_rows {q : Nat} {σ : St} {a : AV} {es : List (List AV)} (h : Rd q σ a es) {x : Nat} (ho : Own a x) : ∃ cap, σ x = some (.rows q es false cap) := by
  rcases h with rfl | h
  · exact absurd ho own_no_sl
  · exact h.own_rows ho
theorem Rd.vw {q : Nat} {σ0 σ : St} {a : AV} {es : List (List AV)} (h : Rd q σ a es) (hf : ∀ x, Own a x → σ0 x = none) : VW σ σ0 a (.sl q es) := by
  rcases h with rfl | h
  · exact .refl _
  · exact h.vw_same hf
/-- A fact whose arguments can be read, and are nobody's that was. -/
def FrX (σ0 σ : St) (f : Fa) (e : List AV) : Prop := ∃ a, e = faX f a ∧ Rd 3 σ a (cnC f.ar) ∧ ∀ x, Own a x → σ0 x = none
theorem FrX.vws {σ0 σ : St} {f : Fa} {e : List AV} (h : FrX σ0 σ f e) : VWs σ σ0 e f.cs := by
  obtain ⟨a, rfl, h1, h2⟩ := h
  exact vws_same (vws_same (vws_same (vws_cons (h1.vw h2) vws_nil)))
/-- A list of such facts. -/
def CP (σ0 σ : St) (lv : AV) (es : List (List AV)) (b : List Fa) : Prop := (∀ x o, σ0 x = some o → σ x = some o) ∧ LAt 4 σ lv es ∧ (∀ x, Own lv x → σ0 x = none) ∧ es.length = b.length ∧ ∀ j (h : j < b.length), FrX σ0 σ b[j] (es.getD j [])
theorem CP.vw {σ0 σ : St} {lv : AV} {es : List (List AV)} {b : List Fa} (h : CP σ0 σ lv es b) : VW σ σ0 lv (.sl 4 (faC b)) := by
  obtain ⟨h1, h2, h3, h4, h5⟩ := h
  refine h2.vw h3 (by rw [faC_len, h4]) fun i hi => ?_
  rw [faC_get (by omega)]
  exact (h5 i (by omega)).vws
theorem CP.view {σ0 σ : St} {lv : AV} {es : List (List AV)} {b : List Fa} (h : CP σ0 σ lv es b) : View σ lv σ0 (.sl 4 (faC b)) := view_of (sv_of fun x o hx => .inl (h.1 x o hx)) h.vw
section
variable {σ : St}
theorem copy_at (l : List Fa) (hl : l.length ≤ 1000000) (hls : ∀ f ∈ l, f.Sm) : AT Tryz.prog 21 [.sl 4 (faC l)] σ fun r σ' => r = .sl 4 (faC l) ∧ σ' = σ := by
  refine AT.of_body Tryz.func21 rfl (by decide) (by kernel_rfl) (by kernel_rfl) (Nat.le_of_ble_eq_true rfl) ?_
  simp only [go_sem, r_block]
  refine ⟨fun m fr σ' => ∃ (i : Nat) (lv : AV) (es : List (List AV)), m = l.length - i ∧ i ≤ l.length ∧ CP σ σ' lv es (l.take i) ∧ fr 0 = .sl 4 (faC l) ∧ fr 3 = lv ∧ fr 4 = int i, ⟨_, 0, nilS, [], rfl, by omega, ⟨fun _ _ h => h, .none, fun x hx => absurd hx own_no_nil, by simp, fun j hj => by simp at hj⟩, rfl, rfl, rfl⟩, ?_⟩
  rintro m fr σ1 ⟨i, lv, es, rfl, hi, ⟨p1, p2, p3, p4, p5⟩, f0, f3, f4⟩
  simp only [go_sem, f0, f4]
  refine aIf_by (fun hlt => ?_) (fun hlt => ?_)
  · have hil : i < l.length := by omega
    have hsm := hls _ (List.getElem_mem hil)
    unfold Fa.Sm at hsm
    simp only [go_sem, r_block, f0, f4, faC_get hil]
    refine ⟨by omega, Ctx.nil.alloc fun t5 σ2 c1 => ?_⟩
    obtain ⟨σ3, e3, c2⟩ := c1.abs 0 rfl (.cells l[i].cs)
    simp only [go_sem, r_block, c1.g0, e3, c2.g0]
    refine aApp_by (ys := cnC l[i].ar) (by simp [src]) (by decide) (by decide) (by decide) (LAt.full.app (by rw [cnC_len]; simp only [List.length_nil]; omega) fun la σ4 h1 g1 => ?_)
    rw [List.nil_append] at h1
    have G1 : Grow σ3 σ4 la := fun y o hy => g1 y o hy own_no_fsl
    have k4 := G1 _ _ c2.g0
    simp only [go_sem, r_block, k4.1, h1.one, h1.cells]
    have esp : splice l[i].cs 3 [la] = faX l[i] la := rfl
    have eal : (faX l[i] la).all AV.one = true := faX_one _ h1.one
    obtain ⟨σ5, e5⟩ : ∃ s, σ4.set t5 (.cells (faX l[i] la)) = s := ⟨_, rfl⟩
    have k5 : σ5 t5 = some (.cells (faX l[i] la)) := by rw [← e5]; exact set_same
    have s5 : ∀ y o, σ1 y = some o → σ5 y = some o := fun y o hy => by
      rw [← e5, set_ne fun e => by
        have := c2.f0
        rw [← e, hy] at this; cases this]
      exact (G1 _ _ (c2.sub _ _ hy)).1
    simp only [go_sem, r_block, esp, e5, k5, eal, f3]
    have p2' := p2.keep (σ' := σ5) fun y o hy _ => s5 y o hy
    refine aApp_by (ys := [faX l[i] la]) (by rfl) (by decide) (by decide) (by decide) (p2'.app (by rw [p4, List.length_take]; simp only [List.length_cons, List.length_nil]; omega) fun lv' σ6 h2 g2 => ?_)
    simp only [go_sem, r_block, f0, f4, next64 (show i < 9223372036854775807 by omega)]
    have nol : ∀ y, σ y ≠ none → ¬ Own lv y := fun y hy ho => hy (p3 y ho)
    have n3 : ∀ {q : Nat} {es' : List (List AV)} {cap : Nat} {y : Nat}, q ≠ 4 → σ1 y = some (.rows q es' false cap) → ¬ Own lv y := fun hq hy ho => by
      obtain ⟨c, hc⟩ := p2.own_rows ho
      rw [hc] at hy
      injection hy with hy
      injection hy with hy
      exact hq hy.symm
    have h5 : LAt 3 σ5 la (cnC l[i].ar) := h1.keep fun y o hy ho => by
      rw [← e5, set_ne fun e => by subst e; exact k4.2 ho]; exact hy
    have hla6 : LAt 3 σ6 la (cnC l[i].ar) := h5.keep fun y o hy ho => (g2 y o hy fun ho' => by
      obtain ⟨c, hc⟩ := p2'.own_rows ho'
      obtain ⟨c', hc'⟩ := h5.own_rows ho
      rw [hc] at hc'; cases hc').1
    refine ⟨l.length - (i + 1), by omega, i + 1, lv', es ++ [faX l[i] la], rfl, by omega, ⟨fun y o hy => (g2 _ _ (s5 _ _ (p1 y o hy)) (nol y (by rw [hy]; simp))).1, h2, fun y ho => ?_, by simp [p4]; omega, fun j hj => ?_⟩, rfl, rfl⟩
    · cases hy : σ y with
      | none => rfl
      | some o => exact absurd ho (g2 _ _ (s5 _ _ (p1 y o hy)) (nol y (by rw [hy]; simp))).2
    · by_cases e : j < i
      · have hj' : j < (l.take i).length := by simp; omega
        obtain ⟨a, a1, a2, a3⟩ := p5 j hj'
        refine ⟨a, ?_, ?_, a3⟩
        · rw [List.getD_eq_getElem?_getD, List.getElem?_append_left (by rw [p4]; exact hj'), ← List.getD_eq_getElem?_getD, a1]
          simp
        · have : (l.take (i + 1))[j] = (l.take i)[j] := by simp
          rw [this]
          refine a2.keepO fun y o hy ho => ?_
          obtain ⟨c, hc⟩ := a2.own_rows ho
          exact (g2 _ _ (s5 _ _ hy) (n3 (by decide) hc)).1
      · have e2 : j = i := by simp at hj; omega
        subst e2
        have e3 : (l.take (j + 1))[j] = l[j] := by simp
        rw [e3]
        refine ⟨la, ?_, .of hla6, fun y ho => ?_⟩
        · have : es.length = j := by rw [p4]; simp; omega
          rw [List.getD_eq_getElem?_getD, List.getElem?_append_right (by omega), this]; simp
        · have := G1.own ho
          exact none_of_sub (fun z o hz => c2.sub _ _ (p1 z o hz)) this
  · simp only [go_sem, r_block, f3]
    rw [List.take_of_length_le (by omega)] at p4 p5
    have hcp : CP σ σ1 lv es l := ⟨p1, p2, p3, p4, p5⟩
    exact aRet_view (r := lv) rfl _ σ hcp.view ⟨rfl, rfl⟩
end
end Go.Proofs.YthdfpankebjleaaGreat

/-
  A term's value; a term made a constant.
  Conditions: none.
-/
namespace Go.Proofs.YthdfpankebjleaaGreat
open Go Go.Av

section
variable {σ : St}
theorem valF_zero {t : Tm} {env : List Bi} (h : t = .zero) : valF t env = none := by unfold valF; rw [if_pos h]
theorem valF_con {t : Tm} {env : List Bi} (h : ¬ t = .zero) (h1 : t.v = emp) : valF t env = some t.val := by unfold valF; rw [if_neg h, if_pos h1]
theorem valF_var {t : Tm} {env : List Bi} (h : ¬ t = .zero) (h1 : ¬ t.v = emp) : valF t env = look env t.v := by unfold valF; rw [if_neg h, if_neg h1]
theorem value_at (t : Tm) (env : List Bi) (hl : env.length ≤ 1000000000) : AT Tryz.prog 58 [.agg t.cs, .sl 4 (biC env)] σ fun r σ' => r = resV (valF t env) ∧ σ' = σ := by
  refine AT.of_body Tryz.func58 rfl (by decide) (by kernel_rfl) (by kernel_rfl) (Nat.le_of_ble_eq_true rfl) ?_
  simp only [go_sem]
  refine Ctx.nil.alloc fun p σ1 c1 => ?_
  simp only [go_sem]
  refine c1.alloc fun q σ2 c2 => ?_
  simp only [go_sem, c2.g1]
  refine tm_eq ?_
  simp only [go_sem]
  refine aIf_by (fun h => ?_) (fun h => ?_)
  · simp only [go_sem, c2.g1]
    exact aRet_ct σ (resV none) rfl set_same tk38 rfl rfl ((c2.upd 0 rfl).view _) ⟨by rw [valF_zero h], rfl⟩
  · simp only [go_sem, c2.g1]
    refine aIf_by (fun h1 => ?_) (fun h1 => ?_)
    · simp only [go_sem, c2.g1]
      exact aRet_ct σ (resV (some t.val)) rfl set_same tk38 rfl rfl ((c2.upd 0 rfl).view _) ⟨by rw [valF_con h h1], rfl⟩
    · simp only [go_sem]
      refine (ixf_at env hl c2.g1.1.2).mono ?_
      rintro _ σ' ⟨rfl, ⟨i, hi, rfl, hI⟩ | ⟨rfl, hI⟩⟩
      · have g : decide ((i : Int) < 0) = false := decide_eq_false (by omega)
        simp only [go_sem, g]
        simp only [go_sem, c2.g1, biC_get hi]
        refine ⟨by omega, ?_⟩
        exact aRet_ct σ (resV (some env[i].c)) rfl set_same tk38 rfl rfl ((c2.upd 0 rfl).view _) ⟨by rw [valF_var h h1, hI], rfl⟩
      · have g : decide ((-1 : Int) < 0) = true := rfl
        simp only [go_sem, g]
        simp only [go_sem, c2.g1]
        exact aRet_ct σ (resV none) rfl set_same tk38 rfl rfl ((c2.upd 0 rfl).view _) ⟨by rw [valF_var h h1, hI], rfl⟩
theorem rvalue_at (t : Tm) (env : List Bi) (hl : env.length ≤ 1000000000) : AT Tryz.prog 84 [.agg t.cs, .sl 4 (biC env)] σ fun r σ' => r = resV (valF t env) ∧ σ' = σ := by
  refine AT.of_body Tryz.func84 rfl (by decide) (by kernel_rfl) (by kernel_rfl) (Nat.le_of_ble_eq_true rfl) ?_
  simp only [go_sem]
  refine Ctx.nil.alloc fun p σ1 c1 => ?_
  simp only [go_sem]
  refine c1.alloc fun q σ2 c2 => ?_
  simp only [go_sem, c2.g1]
  refine (none_at t).mono ?_
  rintro _ σ2 ⟨rfl, rfl⟩
  simp only [go_sem]
  refine aIf_by (fun h => ?_) (fun h => ?_)
  · simp only [go_sem, c2.g1]
    exact aRet_ct σ (resV none) rfl set_same tk38 rfl rfl ((c2.upd 0 rfl).view _) ⟨by rw [valF_zero h], rfl⟩
  · simp only [go_sem, c2.g1]
    refine aIf_by (fun h1 => ?_) (fun h1 => ?_)
    · simp only [go_sem, c2.g1]
      exact aRet_ct σ (resV (some t.val)) rfl set_same tk38 rfl rfl ((c2.upd 0 rfl).view _) ⟨by rw [valF_con h h1], rfl⟩
    · simp only [go_sem, r_block]
      refine ⟨fun m fr σ' => ∃ i : Nat, m = env.length - i ∧ i ≤ env.length ∧ σ' = σ2 ∧ look (env.drop i) t.v = look env t.v ∧ fr 1 = .sl 4 (biC env) ∧ fr 2 = ptr p ∧ fr 4 = ptr q ∧ fr 6 = int i, ⟨_, 0, rfl, by omega, rfl, rfl, rfl, rfl, rfl, rfl⟩, ?_⟩
      rintro m fr σ' ⟨i, rfl, hi, rfl, hI, f1, f2, f4, f6⟩
      simp only [go_sem, f1, f6]
      refine aIf_by (fun hlt => ?_) (fun hlt => ?_)
      · have hil : i < env.length := by omega
        rw [List.drop_eq_getElem_cons hil] at hI
        have e2 : look (env[i] :: env.drop (i + 1)) t.v = if env[i].v = t.v then some env[i].c else look (env.drop (i + 1)) t.v := rfl
        rw [e2] at hI
        simp only [go_sem, r_block]
        refine aDraw_plan [.rd 0 false, .rd 1 false, .rd 2 false, .rd 3 false, .rd 4 true, .rd 5 false, .rd 6 true, .rd 7 false] (by kernel_rfl) (by kernel_rfl) (by kernel_rfl) ?_
        simp only [go_sem, r_block, f1, f2, f6, c2.g1, biC_get hil]
        refine ⟨by omega, aIf_by (fun h0 => ?_) (fun h0 => ?_)⟩
        · rw [if_pos h0] at hI
          simp only [go_sem, f1, f2, f4, f6, c2.g1, biC_get hil]
          refine ⟨by omega, ?_⟩
          exact aRet_ct σ (resV (some env[i].c)) f4 set_same tk38 rfl rfl ((c2.upd 0 rfl).view _) ⟨by rw [valF_var h h1, ← hI], rfl⟩
        · rw [if_neg h0] at hI
          simp only [go_sem, f1, f2, f4, f6, next64 (show i < 9223372036854775807 by omega)]
          exact ⟨env.length - (i + 1), by omega, i + 1, rfl, by omega, hI, rfl⟩
      · rw [List.drop_of_length_le (by omega)] at hI
        simp only [go_sem, f4, c2.g1]
        exact aRet_ct σ (resV none) f4 set_same tk38 rfl rfl ((c2.upd 0 rfl).view _) ⟨by rw [valF_var h h1, ← hI]; rfl, rfl⟩
/-- A slice whose elements are those; what was is yet; all of it is new, or nobody's. -/
theorem cloneB_at (env : List Bi) (hl : env.length ≤ 1000000000) : AT Tryz.prog 59 [.sl 4 (biC env)] σ fun r σ' => LAt 4 σ' r (biC env) ∧ Grow σ σ' r := by
  refine AT.of_body Tryz.func59 rfl (by decide) (by kernel_rfl) (by kernel_rfl) (Nat.le_of_ble_eq_true rfl) ?_
  simp only [go_sem]
  by_cases he : biC env = []
  · refine ⟨fun h => absurd he h, fun _ b => ?_⟩
    refine aIf_bool (fun _ => ?_) (fun _ => ?_)
    · simp only [go_sem]
      exact aRet_as (r := nilS) rfl ⟨by rw [he]; exact .none, .nil⟩
    · simp only [go_sem]
      refine aApp_by (ys := biC env) (by simp [src]) (by decide) (by decide) (by decide) (LAt.full.app (by rw [biC_len]; simp only [List.length_nil]; omega) fun lv σ1 h1 h2 => ?_)
      simp only [go_sem]
      exact aRet_as (r := lv) rfl ⟨h1, fun y p hy => h2 y p hy own_no_fsl⟩
  · refine ⟨fun _ => ?_, fun h => absurd h he⟩
    refine aApp_by (ys := biC env) (by simp [src]) (by decide) (by decide) (by decide) (LAt.full.app (by rw [biC_len]; simp only [List.length_nil]; omega) fun lv σ1 h1 h2 => ?_)
    simp only [go_sem]
    exact aRet_as (r := lv) rfl ⟨h1, fun y p hy => h2 y p hy own_no_fsl⟩
end
end Go.Proofs.YthdfpankebjleaaGreat

/-
  A term made a constant.
  Conditions: none.
-/
namespace Go.Proofs.YthdfpankebjleaaGreat
open Go Go.Av

section
variable {σ : St} {K : AV → Prop}
@[go_sem] theorem resV_0 {o : Option Cn} : aExt (resV o) 0 K = K (.agg (o.getD .zero).cs) := by simp [resV, aExt]
@[go_sem] theorem resV_1 {o : Option Cn} : aExt (resV o) 1 K = K (boo o.isSome) := by simp [resV, aExt]
@[go_sem] theorem resU_0 {o : Option (List Bi)} : aExt (resU o) 0 K = K (.sl 4 (biC (o.getD []))) := by simp [resU, aExt]
@[go_sem] theorem resU_1 {o : Option (List Bi)} : aExt (resU o) 1 K = K (boo o.isSome) := by simp [resU, aExt]
theorem uniF_none0 {t : Tm} {c : Cn} {env : List Bi} (h : valF t env = none) (h1 : t.v = emp) : uniF t c env = none := by unfold uniF; rw [h]; simp only; rw [if_pos h1]
theorem uniF_none1 {t : Tm} {c : Cn} {env : List Bi} (h : valF t env = none) (h1 : ¬ t.v = emp) : uniF t c env = some (env ++ [⟨t.v, c⟩]) := by unfold uniF; rw [h]; simp only; rw [if_neg h1]
theorem uniF_some0 {t : Tm} {c x : Cn} {env : List Bi} (h : valF t env = some x) (h1 : x = c) : uniF t c env = some env := by unfold uniF; rw [h]; simp only; rw [if_pos h1]
theorem uniF_some1 {t : Tm} {c x : Cn} {env : List Bi} (h : valF t env = some x) (h1 : ¬ x = c) : uniF t c env = none := by unfold uniF; rw [h]; simp only; rw [if_neg h1]
theorem unify_at (t : Tm) (c : Cn) (env : List Bi) (hl : env.length ≤ 1000000) : AT Tryz.prog 29 [.agg t.cs, .agg c.cs, .sl 4 (biC env)] σ fun r σ' => r = resU (uniF t c env) ∧ σ' = σ := by
  refine AT.of_body Tryz.func29 rfl (by decide) (by kernel_rfl) (by kernel_rfl) (Nat.le_of_ble_eq_true rfl) ?_
  simp only [go_sem]
  refine Ctx.nil.alloc fun p σ1 c1 => ?_
  simp only [go_sem]
  refine c1.alloc fun q σ2 c2 => ?_
  simp only [go_sem, c2.g1]
  refine (value_at t env (by omega)).mono ?_
  rintro _ σ2 ⟨rfl, rfl⟩
  simp only [go_sem]
  refine c2.alloc fun r σ3 c3 => ?_
  cases hv : valF t env with
  | none =>
    obtain ⟨σ4, e4, c4⟩ := c3.abs 0 rfl (.cells ((none : Option Cn).getD .zero).cs)
    simp only [go_sem, c3.g2, e4, c4.g2]
    refine aIf_by (fun h1 => ?_) (fun h1 => ?_)
    · simp only [go_sem]
      exact aRet_view (r := .tup [nilS, boo false]) rfl (resU none) σ (ret_nil2 c4.sub _) ⟨by rw [uniF_none0 hv h1], rfl⟩
    · simp only [go_sem]
      refine aDraw_plan [.rd 0 false, .rd 2 false, .rd 3 true, .rd 4 true, .rd 5 false, .rd 6 false, .ef 1 [3, 4], .ef 7 [], .rd 8 false, .rd 9 false] (by kernel_rfl) (by kernel_rfl) (by kernel_rfl) ?_
      simp only [go_sem, c4.g2]
      refine (cloneB_at env (by omega)).mono ?_
      rintro lv σ5 ⟨hL, hG⟩
      have c5 := c4.more hG.sub
      simp only [go_sem, c5.g2]
      refine aApp_by (ys := [[str t.v, boo c.b, int c.n, str c.s]]) (by rfl) (by decide) (by decide) (by decide) (hL.app (by rw [biC_len]; simp only [List.length_cons, List.length_nil]; omega) fun lv' σ6 h1' h2' => ?_)
      simp only [go_sem]
      have e : biC env ++ [[str t.v, boo c.b, int c.n, str c.s]] = biC (env ++ [⟨t.v, c⟩]) := by simp [biC, Bi.cs]
      rw [e] at h1'
      exact aRet_view (r := .tup [lv', boo true]) rfl (resU (some (env ++ [⟨t.v, c⟩]))) σ (ret_sl2 h1' (fun y o hy => (hG.step h2') y o (c4.sub y o hy)) _) ⟨by rw [uniF_none1 hv h1], rfl⟩
  | some x =>
    obtain ⟨σ4, e4, c4⟩ := c3.abs 0 rfl (.cells ((some x).getD .zero).cs)
    simp only [go_sem, c3.g2, e4, c4.g2]
    refine cn_ne ?_
    simp only [go_sem]
    refine aIf_by (fun h1 => ?_) (fun h1 => ?_)
    · simp only [go_sem]
      refine (cloneB_at env (by omega)).mono ?_
      rintro lv σ5 ⟨hL, hG⟩
      simp only [go_sem]
      exact aRet_view (r := .tup [lv, boo true]) rfl (resU (some env)) σ (ret_sl2 hL (fun y o hy => hG y o (c4.sub y o hy)) _) ⟨by rw [uniF_some0 hv h1], rfl⟩
    · simp only [go_sem]
      exact aRet_view (r := .tup [nilS, boo false]) rfl (resU none) σ (ret_nil2 c4.sub _) ⟨by rw [uniF_some1 hv h1], rfl⟩
theorem runify_at (t : Tm) (c : Cn) (env : List Bi) (hl : env.length ≤ 1000000) : AT Tryz.prog 44 [.agg t.cs, .agg c.cs, .sl 4 (biC env)] σ fun r σ' => r = resU (uniF t c env) ∧ σ' = σ := by
  refine AT.of_body Tryz.func44 rfl (by decide) (by kernel_rfl) (by kernel_rfl) (Nat.le_of_ble_eq_true rfl) ?_
  simp only [go_sem]
  refine Ctx.nil.alloc fun p σ1 c1 => ?_
  simp only [go_sem]
  refine c1.alloc fun q σ2 c2 => ?_
  simp only [go_sem, c2.g1]
  refine (rvalue_at t env (by omega)).mono ?_
  rintro _ σ2 ⟨rfl, rfl⟩
  simp only [go_sem]
  refine c2.alloc fun r σ3 c3 => ?_
  obtain ⟨σ4, e4, c4⟩ := c3.abs 0 rfl (.cells ((valF t env).getD .zero).cs)
  simp only [go_sem, c3.g2, e4]
  refine aApp_by (ys := biC env) (by simp [src]) (by decide) (by decide) (by decide) (LAt.full.app (by rw [biC_len]; simp only [List.length_nil]; omega) fun lv σ5 hL h2 => ?_)
  rw [List.nil_append] at hL
  have hG : Grow σ4 σ5 lv := fun y p hy => h2 y p hy own_no_fsl
  have c5 := c4.more hG.sub
  cases hv : valF t env with
  | none =>
    rw [hv] at c5
    simp only [go_sem, c5.g2]
    refine (none_at t).mono ?_
    rintro _ σ5 ⟨rfl, rfl⟩
    simp only [go_sem]
    refine aIf_by (fun h0 => ?_) (fun h0 => ?_)
    · simp only [go_sem]
      exact aRet_view (r := .tup [nilS, boo false]) rfl (resU none) σ (ret_nil2 c5.sub _) ⟨by rw [uniF_none0 hv (by rw [h0]; rfl)], rfl⟩
    · have h1 : ¬ t.v = emp := fun h1 => by
        rw [valF_con h0 h1] at hv; cases hv
      simp only [go_sem, c5.g2]
      refine aApp_by (ys := [[str t.v, boo c.b, int c.n, str c.s]]) (by rfl) (by decide) (by decide) (by decide) (hL.app (by rw [biC_len]; simp only [List.length_cons, List.length_nil]; omega) fun lv' σ6 h1' h2' => ?_)
      simp only [go_sem]
      have e : biC env ++ [[str t.v, boo c.b, int c.n, str c.s]] = biC (env ++ [⟨t.v, c⟩]) := by simp [biC, Bi.cs]
      rw [e] at h1'
      exact aRet_view (r := .tup [lv', boo true]) rfl (resU (some (env ++ [⟨t.v, c⟩]))) σ (ret_sl2 h1' (fun y o hy => (hG.step h2') y o (c4.sub y o hy)) _) ⟨by rw [uniF_none1 hv h1], rfl⟩
  | some x =>
    rw [hv] at c5
    simp only [go_sem, c5.g2]
    refine cn_eq ?_
    simp only [go_sem]
    refine aIf_by (fun h1 => ?_) (fun h1 => ?_)
    · simp only [go_sem]
      exact aRet_view (r := .tup [lv, boo true]) rfl (resU (some env)) σ (ret_sl2 hL (fun y o hy => hG y o (c4.sub y o hy)) _) ⟨by rw [uniF_some0 hv h1], rfl⟩
    · simp only [go_sem]
      exact aRet_view (r := .tup [nilS, boo false]) rfl (resU none) σ (ret_nil2 c5.sub _) ⟨by rw [uniF_some1 hv h1], rfl⟩
end
end Go.Proofs.YthdfpankebjleaaGreat

/-
  A literal made a fact, as both packages reckon it.
  Conditions: none.
-/
namespace Go.Proofs.YthdfpankebjleaaGreat
open Go Go.Av

theorem uni_len {t : Tm} {c : Cn} {env e : List Bi} (h : uniF t c env = some e) : e.length ≤ env.length + 1 := by
  unfold uniF at h
  split at h
  · split at h
    · injection h with h; subst h; omega
    · cases h
  · split at h
    · cases h
    · injection h with h; subst h; simp
theorem unis_len {l : List (Tm × Cn)} : ∀ {env e : List Bi}, uniS l env = some e → e.length ≤ env.length + l.length := by
  induction l with
  | nil => intro env e h; injection h with h; subst h; simp
  | cons p l ih =>
    intro env e h
    obtain ⟨m, h1, h2⟩ := Option.bind_eq_some_iff.1 h
    have := uni_len h1
    have := ih h2
    simp only [List.length_cons]
    omega
theorem lit_len {ho : Tm} {l : Li} {f : Fa} {env e : List Bi} (h : litF ho l f env = some e) : e.length ≤ env.length + l.ar.length + 2 := by
  unfold litF at h
  split at h
  · have := unis_len h
    unfold eqs at this
    simp only [List.length_cons, List.length_append, List.length_zip] at this
    split at this <;> simp only [List.length_nil, List.length_cons] at this <;> omega
  · cases h
theorem unis_app {l m : List (Tm × Cn)} : ∀ {env : List Bi}, uniS (l ++ m) env = (uniS l env).bind (uniS m) := by
  induction l with
  | nil => intro env; rfl
  | cons p l ih =>
    intro env
    show (uniF p.1 p.2 env).bind (uniS (l ++ m)) = _
    cases h : uniF p.1 p.2 env with
    | none => simp [uniS, h]
    | some e => simp only [Option.bind_some, uniS, h]; exact ih
/-- Behind the arguments up to place i. -/
theorem unis_take {a : List Tm} {b : List Cn} {i : Nat} (h1 : i < a.length) (h2 : i < b.length) (env : List Bi) : uniS ((a.take (i + 1)).zip (b.take (i + 1))) env = (uniS ((a.take i).zip (b.take i)) env).bind (uniF a[i] b[i]) := by
  rw [List.take_add_one, List.take_add_one, List.getElem?_eq_getElem h1, List.getElem?_eq_getElem h2, List.zip_append (by simp; omega), unis_app]
  congr 1
  funext e
  simp [uniS]
def litA (ho : Tm) (l : Li) (f : Fa) (env : List Bi) : Option (List Bi) := (uniF (orT l.at' ho) (nmC f.at') env).bind fun e => if l.by' = .zero then (if f.by' = f.at' then some e else none) else uniF l.by' (nmC f.by') e
theorem lit_eq {ho : Tm} {l : Li} {f : Fa} {env : List Bi} : litF ho l f env = if l.nm = f.pr ∧ l.ar.length = f.ar.length then (litA ho l f env).bind (uniS (l.ar.zip f.ar)) else none := by
  unfold litF fits eqs litA
  by_cases h : l.nm = f.pr ∧ l.ar.length = f.ar.length
  · rw [if_pos h, decide_eq_true h.1, decide_eq_true h.2]
    simp only [Bool.true_and]
    by_cases h0 : l.by' = .zero
    · rw [if_pos h0]
      by_cases h1 : f.by' = f.at'
      · rw [if_pos (by simp [h1])]
        simp only [uniS, List.nil_append, h0, h1, if_true]
        cases uniF (orT l.at' ho) (nmC f.at') env <;> rfl
      · rw [if_neg (by simp [h0, h1])]
        simp only [h0, h1, if_true, if_false]
        cases uniF (orT l.at' ho) (nmC f.at') env <;> rfl
    · rw [if_neg h0, if_pos (by simp [h0])]
      simp only [uniS, List.cons_append, List.nil_append, h0, if_false]
      cases uniF (orT l.at' ho) (nmC f.at') env <;> rfl
  · rw [if_neg h, if_neg]
    intro h'
    simp only [Bool.and_eq_true, decide_eq_true_eq] at h'
    exact h h'.1
section
variable {P : Program} {res : List ResultVar} {fr : Fr} {σ σ' : St} {o : Option (List Bi)}
theorem ret_fail (hr : aResult P fr σ' res = some (.tup [nilS, boo false])) (hs : ∀ y o, σ y = some o → σ' y = some o) (ho : o = none) : aRet P (fun r σ'' => r = resU o ∧ σ'' = σ) res fr σ' :=
  aRet_view hr (resU none) σ (ret_nil2 hs _) ⟨by rw [ho], rfl⟩
theorem ret_env {e : List Bi} (hr : aResult P fr σ' res = some (.tup [.sl 4 (biC e), boo true])) (hs : ∀ y o, σ y = some o → σ' y = some o) (ho : o = some e) : aRet P (fun r σ'' => r = resU o ∧ σ'' = σ) res fr σ' :=
  aRet_view hr (resU (some e)) σ (view_drop hs) ⟨by rw [ho], rfl⟩
end
theorem litF_off {ho : Tm} {l : Li} {f : Fa} {env : List Bi} (h : ¬ (l.nm = f.pr ∧ l.ar.length = f.ar.length)) : litF ho l f env = none := by rw [lit_eq, if_neg h]
theorem litF_on {ho : Tm} {l : Li} {f : Fa} {env : List Bi} (h1 : l.nm = f.pr) (h2 : l.ar.length = f.ar.length) : litF ho l f env = (litA ho l f env).bind (uniS (l.ar.zip f.ar)) := by rw [lit_eq, if_pos ⟨h1, h2⟩]
section
variable {σ : St}
theorem rlit_at (ho : Tm) (l : Li) (f : Fa) (env : List Bi) (hl : env.length ≤ 100000) (ha : l.ar.length ≤ 100000) : AT Tryz.prog 88 [.agg ho.cs, .agg l.cs, .agg f.cs, .sl 4 (biC env)] σ fun r σ' => r = resU (litF ho l f env) ∧ σ' = σ := by
  refine AT.of_body Tryz.func88 rfl (by decide) (by kernel_rfl) (by kernel_rfl) (Nat.le_of_ble_eq_true rfl) ?_
  simp only [go_sem]
  refine Ctx.nil.alloc fun p σ1 c1 => ?_
  simp only [go_sem]
  refine c1.alloc fun q σ2 c2 => ?_
  simp only [go_sem]
  refine c2.alloc fun x σ3 c3 => ?_
  by_cases h1 : l.nm = f.pr
  · simp only [go_sem, c3.g2, h1]
    refine aIf_by (fun h2 => ?_) (fun h2 => ?_)
    · have h2 : l.ar.length = f.ar.length := by omega
      have hlf := litF_on (ho := ho) (env := env) h1 h2
      simp only [go_sem, c3.g2]
      refine c3.alloc fun r σ4 c4 => ?_
      obtain ⟨σ5, e5, c5⟩ := c4.abs 0 rfl (.cells l.at'.cs)
      simp only [go_sem, c4.g3, e5, c5.g3]
      refine (none_at l.at').mono ?_
      rintro _ σ5 ⟨rfl, rfl⟩
      simp only [go_sem]
      refine aIf_meet (fun fr σ' => Ctx σ [(r, .cells (orT l.at' ho).cs), (x, .cells f.cs), (q, .cells l.cs), (p, .cells ho.cs)] σ' ∧ fr 3 = .sl 4 (biC env) ∧ fr 4 = ptr p ∧ fr 5 = ptr q ∧ fr 6 = ptr x ∧ fr 10 = ptr r) (fun h0 => ?_) (fun h0 => ?_) ?_
      · obtain ⟨σ6, e6, c6⟩ := c5.abs 0 rfl (.cells ho.cs)
        simp only [go_sem, c5.g3, e6]
        unfold orT; rw [if_pos h0]; exact c6
      · simp only [go_sem]
        unfold orT; rw [if_neg h0]; exact c5
      clear c5 c4 e5
      rintro fr σ6 ⟨c6, f3, f4, f5, f6, f10⟩
      simp only [go_sem]
      refine aDraw_plan [.rd 0 true, .rd 1 false, .rd 2 true, .rd 4 false, .ef 3 [0], .ef 5 [], .rd 6 false, .rd 7 false, .rd 8 false, .rd 9 false, .rd 10 false] (by kernel_rfl) (by kernel_rfl) (by kernel_rfl) ?_
      simp only [go_sem, f3, f6, f10, c6.g3]
      refine (name_at f.at').mono ?_
      rintro _ σ6 ⟨rfl, rfl⟩
      simp only [go_sem, f3, f6, f10, c6.g3]
      refine (runify_at (orT l.at' ho) (nmC f.at') env (by omega)).mono ?_
      rintro _ σ6 ⟨rfl, rfl⟩
      simp only [go_sem]
      cases hu : uniF (orT l.at' ho) (nmC f.at') env with
      | none =>
        have hn : litF ho l f env = none := by rw [hlf]; unfold litA; rw [hu]; rfl
        simp only [go_sem]
        exact ret_fail rfl c6.sub hn
      | some e =>
        have he := uni_len hu
        simp only [go_sem, f5, c6.g3]
        refine (none_at l.by').mono ?_
        rintro _ σ6 ⟨rfl, rfl⟩
        simp only [go_sem]
        refine aIf_meet (fun fr σ' => ∃ e2, σ' = σ6 ∧ litA ho l f env = some e2 ∧ e2.length ≤ env.length + 2 ∧ fr 5 = ptr q ∧ fr 6 = ptr x ∧ fr 11 = .sl 4 (biC e2)) (fun h0 => ?_) (fun h0 => ?_) ?_
        · by_cases h3 : f.by' = f.at'
          · have ht : litA ho l f env = some e := by unfold litA; rw [hu]; simp [h0, h3]
            simp only [go_sem, f6, c6.g3, h3]
            refine ⟨e, ?_⟩
            (and_intros <;> first | assumption | rfl | omega)
          · have hn : litF ho l f env = none := by rw [hlf]; unfold litA; rw [hu]; simp [h0, h3]
            simp only [go_sem, f6, c6.g3, h3]
            exact ret_fail rfl c6.sub hn
        · simp only [go_sem]
          refine aDraw_plan [.rd 0 false, .rd 1 true, .rd 2 false, .rd 3 true, .rd 5 false, .ef 4 [1], .ef 6 [], .rd 7 false, .rd 8 false, .rd 9 false, .rd 10 false, .rd 11 false] (by kernel_rfl) (by kernel_rfl) (by kernel_rfl) ?_
          simp only [go_sem, f5, f6, c6.g3]
          refine (name_at f.by').mono ?_
          rintro _ σ6 ⟨rfl, rfl⟩
          simp only [go_sem, f5, f6, c6.g3]
          refine (runify_at l.by' (nmC f.by') e (by omega)).mono ?_
          rintro _ σ6 ⟨rfl, rfl⟩
          simp only [go_sem]
          cases hv : uniF l.by' (nmC f.by') e with
          | none =>
            have hn : litF ho l f env = none := by rw [hlf]; unfold litA; rw [hu]; simp [h0, hv]
            simp only [go_sem]
            exact ret_fail rfl c6.sub hn
          | some e2 =>
            have ht : litA ho l f env = some e2 := by unfold litA; rw [hu]; simp [h0, hv]
            have := uni_len hv
            simp only [go_sem]
            refine ⟨e2, ?_⟩
            (and_intros <;> first | assumption | rfl | omega)
        rintro fr σ' ⟨e2, rfl, ht, hl2, f5, f6, f11⟩
        rw [ht, Option.bind_some] at hlf
        clear f3 f4 f10
        simp only [go_sem, r_block]
        refine ⟨fun m fr σ'' => ∃ (i : Nat) (ei : List Bi), m = l.ar.length - i ∧ i ≤ l.ar.length ∧ σ'' = σ' ∧ uniS ((l.ar.take i).zip (f.ar.take i)) e2 = some ei ∧ fr 5 = ptr q ∧ fr 6 = ptr x ∧ fr 11 = .sl 4 (biC ei) ∧ fr 13 = int i, ⟨_, 0, e2, rfl, by omega, rfl, rfl, f5, f6, f11, rfl⟩, ?_⟩
        clear f5 f6 f11
        rintro m fr σ'' ⟨i, ei, rfl, hi, rfl, hI, f5, f6, f11, f13⟩
        have hei := unis_len hI
        simp only [List.length_zip, List.length_take] at hei
        simp only [go_sem, f5, f13, c6.g3]
        refine aIf_by (fun hlt => ?_) (fun hlt => ?_)
        · have hil : i < l.ar.length := by omega
          have hif : i < f.ar.length := by omega
          simp only [go_sem, r_block]
          refine aDraw_plan [.rd 0 false, .rd 1 true, .rd 2 false, .rd 3 false, .rd 4 true, .rd 5 false, .rd 6 true, .rd 7 false, .rd 8 false, .rd 9 true, .rd 10 false, .ef 11 [], .rd 12 false, .rd 13 false, .rd 14 false, .rd 15 false, .rd 16 false] (by kernel_rfl) (by kernel_rfl) (by kernel_rfl) ?_
          simp only [go_sem, r_block, f5, f6, f11, f13, c6.g3, tmC_get hil, cnC_get hif]
          refine ⟨by omega, by omega, (runify_at l.ar[i] f.ar[i] ei (by omega)).mono ?_⟩
          rintro _ σ6 ⟨rfl, rfl⟩
          have hs := unis_take hil hif e2
          rw [hI, Option.bind_some] at hs
          simp only [go_sem]
          cases hw : uniF l.ar[i] f.ar[i] ei with
          | none =>
            rw [hw] at hs
            have hn : litF ho l f env = none := by
              rw [hlf]
              have e1 : l.ar.zip f.ar = (l.ar.take (i + 1)).zip (f.ar.take (i + 1)) ++ (l.ar.drop (i + 1)).zip (f.ar.drop (i + 1)) := by
                rw [← List.zip_append (by simp; omega), List.take_append_drop, List.take_append_drop]
              rw [e1, unis_app, hs]
              rfl
            simp only [go_sem]
            exact ret_fail rfl c6.sub hn
          | some e3 =>
            rw [hw] at hs
            simp only [go_sem, f5, f6, f13, next64 (show i < 9223372036854775807 by omega)]
            refine ⟨l.ar.length - (i + 1), by omega, i + 1, e3, ?_⟩
            (and_intros <;> first | assumption | rfl | omega)
        · rw [List.take_of_length_le (by omega), List.take_of_length_le (by omega)] at hI
          simp only [go_sem, f11]
          exact ret_env rfl c6.sub (by rw [hlf, hI])
    · have hn : litF ho l f env = none := litF_off fun h => h2 (by rw [h.2])
      simp only [go_sem]
      exact ret_fail rfl c3.sub hn
  · have hn : litF ho l f env = none := litF_off fun h => h1 h.1
    simp only [go_sem, c3.g2, h1]
    exact ret_fail rfl c3.sub hn
end
end Go.Proofs.YthdfpankebjleaaGreat

/-
  The document's finder: a body is put in at its place, once.
  Conditions: none.
-/
namespace Go.Proofs.YthdfpankebjleaaGreat
open Go Go.Av

/-- A finder at block x: what it has found, and what it has done. -/
def FI (β σ : St) (x : Nat) (out : List (List Fa)) (d : Nat) : Prop :=
  ∃ lv, σ x = some (.cells [lv, int d, boo (decide (30000 < d))]) ∧ LAt 1 σ lv (boC out) ∧ ∀ y o, β y = some o → σ y = some o ∧ y ≠ x ∧ ¬ Own lv y
section
variable {β σ : St} {x : Nat}
theorem boC_ins {out : List (List Fa)} {b : List Fa} (k : Nat) : ([] ++ (boC out).take k) ++ [[.sl 4 (faC b)]] ++ (boC out).drop k = boC (out.take k ++ b :: out.drop k) := by
  simp [boC, List.map_take, List.map_drop]
theorem add_at {out : List (List Fa)} {d : Nat} {b : List Fa} (h : FI β σ x out d) (hl : out.length ≤ 100000) (ho : ∀ a ∈ out, SmB a) (hb : SmB b) : AT Tryz.prog 126 [ptr x, .sl 4 (faC b)] σ fun _ σ' => FI β σ' x (insF cmpB b out) d := by
  obtain ⟨lv, hx, hL, hβ⟩ := h
  refine AT.of_body Tryz.func126 rfl (by decide) (by kernel_rfl) (by kernel_rfl) (Nat.le_of_ble_eq_true rfl) ?_
  simp only [go_sem, r_block]
  refine ⟨fun m fr σ' => ∃ k : Nat, m = out.length - k ∧ k ≤ out.length ∧ σ' = σ ∧ (∀ i (hi : i < k) (hl : i < out.length), cmpB out[i] b < 0) ∧ fr 0 = ptr x ∧ fr 1 = .sl 4 (faC b) ∧ fr 4 = int k, ⟨_, 0, rfl, by omega, rfl, fun i hi => by omega, rfl, rfl, rfl⟩, ?_⟩
  rintro m fr σ ⟨k, rfl, hk, rfl, hI, f0, f1, f4⟩
  by_cases g : ∃ hk : k < out.length, cmpB out[k] b < 0
  · obtain ⟨g1, g2⟩ := g
    have d1 := decide_eq_true (show (k : Int) < out.length by omega)
    simp only [go_sem, r_block, f0, f1, f4, hx, hL.len, d1]
    refine hL.elem (by omega) (by rw [boC_len]; omega) fun p hp => ?_
    simp only [go_sem, r_block]
    refine hp.load1 (by decide) (by rw [Int.toNat_natCast, boC_get g1]; exact Nat.le_refl 1) ?_
    simp only [go_sem, r_block, f0, f1, f4, boC_get g1]
    have s1 := ho _ (List.getElem_mem g1)
    refine (rcmpB_at out[k] b s1.1 s1.2 hb.1 hb.2).mono ?_
    rintro _ σ ⟨rfl, rfl⟩
    simp only [go_sem, r_block, f0, f1, f4, decide_eq_true g2, next64 (show k < 9223372036854775807 by omega)]
    refine ⟨out.length - (k + 1), by omega, k + 1, ?_⟩
    have hI' : ∀ i (hi : i < k + 1) (hl : i < out.length), cmpB out[i] b < 0 := fun i hi hl => by
      by_cases e : i = k
      · subst e; exact g2
      · exact hI i (by omega) hl
    (and_intros <;> first | assumption | rfl | omega)
  · have hn : ∀ hk : k < out.length, ¬ cmpB out[k] b < 0 := fun h1 h2 => g ⟨h1, h2⟩
    have hins := ins_at (c := cmpB) hk hI hn
    by_cases h0 : ∃ hk : k < out.length, cmpB out[k] b = 0
    · obtain ⟨g1, g2⟩ := h0
      rw [if_pos ⟨g1, g2⟩] at hins
      have d1 := decide_eq_true (show (k : Int) < out.length by omega)
      have s1 := ho _ (List.getElem_mem g1)
      simp only [go_sem, r_block, f0, f1, f4, hx, hL.len, d1]
      refine hL.elem (by omega) (by rw [boC_len]; omega) fun p hp => ?_
      simp only [go_sem, r_block]
      refine hp.load1 (by decide) (by rw [Int.toNat_natCast, boC_get g1]; exact Nat.le_refl 1) ?_
      simp only [go_sem, r_block, f0, f1, f4, boC_get g1]
      refine (rcmpB_at out[k] b s1.1 s1.2 hb.1 hb.2).mono ?_
      rintro _ σ ⟨rfl, rfl⟩
      simp only [go_sem, r_block, f0, f1, f4, decide_eq_false (hn g1), hx, hL.len, d1]
      refine hL.elem (by omega) (by rw [boC_len]; omega) fun p hp => ?_
      simp only [go_sem, r_block]
      refine hp.load1 (by decide) (by rw [Int.toNat_natCast, boC_get g1]; exact Nat.le_refl 1) ?_
      simp only [go_sem, r_block, f0, f1, f4, boC_get g1]
      refine (rcmpB_at out[k] b s1.1 s1.2 hb.1 hb.2).mono ?_
      rintro _ σ ⟨rfl, rfl⟩
      simp only [go_sem, r_block, decide_eq_true g2]
      rw [hins]
      exact aRet_as (r := .tup []) rfl ⟨lv, hx, hL, hβ⟩
    · rw [if_neg h0] at hins
      by_cases hkl : k < out.length
      case' pos =>
        have d1 := decide_eq_true (show (k : Int) < out.length by omega)
        have s1 := ho _ (List.getElem_mem hkl)
        simp only [go_sem, r_block, f0, f1, f4, hx, hL.len, d1]
        refine hL.elem (by omega) (by rw [boC_len]; omega) fun p hp => ?_
        simp only [go_sem, r_block]
        refine hp.load1 (by decide) (by rw [Int.toNat_natCast, boC_get hkl]; exact Nat.le_refl 1) ?_
        simp only [go_sem, r_block, f0, f1, f4, boC_get hkl]
        refine (rcmpB_at out[k] b s1.1 s1.2 hb.1 hb.2).mono ?_
        rintro _ σ ⟨rfl, rfl⟩
        simp only [go_sem, r_block, f0, f1, f4, decide_eq_false (hn hkl), hx, hL.len, d1]
        refine hL.elem (by omega) (by rw [boC_len]; omega) fun p hp => ?_
        simp only [go_sem, r_block]
        refine hp.load1 (by decide) (by rw [Int.toNat_natCast, boC_get hkl]; exact Nat.le_refl 1) ?_
        simp only [go_sem, r_block, f0, f1, f4, boC_get hkl]
        refine (rcmpB_at out[k] b s1.1 s1.2 hb.1 hb.2).mono ?_
        rintro _ σ ⟨rfl, rfl⟩
        have d2 := decide_eq_false (show ¬ cmpB out[k] b = 0 from fun e => h0 ⟨hkl, e⟩)
        simp only [go_sem, r_block, d2, f0, f4, hx]
      case' neg =>
        have d1 := decide_eq_false (show ¬ (k : Int) < out.length by omega)
        simp only [go_sem, r_block, f0, f1, f4, hx, hL.len, d1]
      all_goals
        refine hL.upto (by omega) (by rw [boC_len]; omega) fun s hs => ?_
        simp only [go_sem, r_block]
        refine aApp_by (ys := (boC out).take k) (by rw [hs _ _ hL]; rfl) (by decide) (by decide) (by decide) (LAt.full.app (by rw [List.length_take, boC_len]; simp only [List.length_nil]; omega) fun l1 σ1 h1 e1 => ?_)
        have G1 : Grow σ σ1 l1 := fun y p hy => e1 y p hy own_no_fsl
        simp only [go_sem, r_block, f1]
        refine aApp_by (ys := [[.sl 4 (faC b)]]) (by rfl) (by decide) (by decide) (by decide) (h1.app (by rw [List.nil_append, List.length_take, boC_len]; simp only [List.length_nil, List.length_cons]; omega) fun l2 σ2 h2 e2 => ?_)
        have G2 := G1.step e2
        simp only [go_sem, r_block, f0, f4, G2.sub _ _ hx]
        have hL2 : LAt 1 σ2 lv (boC out) := hL.keep fun y o hy _ => G2.sub y o hy
        refine hL2.from (by decide) (by omega) (by rw [boC_len]; omega) fun s2 hs2 => ?_
        simp only [go_sem, r_block]
        refine aApp_by (ys := (boC out).drop k) (by rw [hs2 _ _ hL2]; rfl) (by decide) (by decide) (by decide) (h2.app (by simp only [List.nil_append, List.length_append, List.length_take, List.length_drop, boC_len, List.length_nil, List.length_cons]; omega) fun l3 σ3 h3 e3 => ?_)
        have G3 := G2.step e3
        have hx3 := G3 _ _ hx
        simp only [go_sem, r_block, f0, hx3.1, h3.one, h3.cells]
        refine aRet_as (r := .tup []) rfl ⟨l3, set_same, ?_, fun y o hy => ?_⟩
        · rw [hins, ← boC_ins]
          exact h3.keep fun y o hy ho => by rw [set_ne (fun e => by subst e; exact hx3.2 ho)]; exact hy
        · obtain ⟨k1, k2, k3⟩ := hβ y o hy
          exact ⟨by rw [set_ne k2]; exact (G3 _ _ k1).1, k2, (G3 _ _ k1).2⟩
end
end Go.Proofs.YthdfpankebjleaaGreat

/-
  The document's finder: literal by literal.
  Conditions: none.
-/
namespace Go.Proofs.YthdfpankebjleaaGreat
open Go Go.Av

section
variable {β β' σ σ' : St} {x : Nat} {out : List (List Fa)} {d : Nat}
theorem FI.mono (h : FI β σ x out d) (hs : ∀ y o, σ y = some o → σ' y = some o) : FI β σ' x out d := by
  obtain ⟨lv, h1, h2, h3⟩ := h
  exact ⟨lv, hs _ _ h1, h2.keep fun y o hy _ => hs y o hy, fun y o hy => ⟨hs _ _ (h3 y o hy).1, (h3 y o hy).2⟩⟩
theorem FI.sub (h : FI β' σ x out d) (hs : ∀ y o, β y = some o → β' y = some o) : FI β σ x out d := by
  obtain ⟨lv, h1, h2, h3⟩ := h
  exact ⟨lv, h1, h2, fun y o hy => h3 y o (hs y o hy)⟩
/-- All blocks of cells beside it may be held to. -/
theorem FI.base (h : FI β σ x out d) : ∃ β', FI β' σ x out d ∧ (∀ y o, β y = some o → β' y = some o) ∧ ∀ y cs, σ y = some (.cells cs) → y ≠ x → β' y = some (.cells cs) := by
  classical
  obtain ⟨lv, h1, h2, h3⟩ := h
  refine ⟨fun y => if y = x ∨ Own lv y then none else σ y, ⟨lv, h1, h2, fun y o hy => ?_⟩, fun y o hy => ?_, fun y cs hy hne => ?_⟩
  · simp only at hy
    split at hy
    · cases hy
    · rename_i hn
      exact ⟨hy, fun e => hn (.inl e), fun e => hn (.inr e)⟩
  · obtain ⟨k1, k2, k3⟩ := h3 y o hy
    simp only
    rw [if_neg (by rintro (e | e); exact k2 e; exact k3 e)]
    exact k1
  · simp only
    rw [if_neg (by rintro (e | e); exact hne e; exact h2.not_own hy e)]
    exact hy
theorem FI.keep (h : FI β σ x out d) {y : Nat} {o : AObj} (hy : β y = some o) : σ y = some o := by
  obtain ⟨lv, h1, h2, h3⟩ := h
  exact (h3 y o hy).1
theorem FI.free {lw : AV} (h : FI β σ x out d) (hx : ∀ y o, FI β σ x out d → σ y = some o → Own lw y → False) : FI β (St.free σ lw) x out d := by
  obtain ⟨lv, h1, h2, h3⟩ := h
  have hn : ∀ y o, σ y = some o → ¬ Own lw y := fun y o hy ho => hx y o ⟨lv, h1, h2, h3⟩ hy ho
  exact ⟨lv, by rw [free_ne (hn _ _ h1)]; exact h1, h2.keep fun y o hy _ => by rw [free_ne (hn _ _ hy)]; exact hy, fun y o hy => ⟨by rw [free_ne (hn _ _ (h3 y o hy).1)]; exact (h3 y o hy).1, (h3 y o hy).2⟩⟩
end
theorem FI.put {β σ : St} {x : Nat} {out : List (List Fa)} {d : Nat} {lv : AV} {b : Bool} {cs : List AV} (x1 : σ x = some (.cells cs)) (x2 : LAt 1 σ lv (boC out)) (x3 : ∀ y o, β y = some o → σ y = some o ∧ y ≠ x ∧ ¬ Own lv y) (hb : b = decide (30000 < d)) : FI β (σ.set x (.cells [lv, int d, boo b])) x out d := by
  subst hb
  exact ⟨lv, set_same, x2.keep fun y o hy ho => by rw [set_ne (fun e => by subst e; exact x2.not_own x1 ho)]; exact hy, fun y o hy => ⟨by rw [set_ne (x3 y o hy).2.1]; exact (x3 y o hy).1, (x3 y o hy).2⟩⟩
/-- One fact held against a literal. -/
def stp (ho : Tm) (li : Li) (ls : List (Li × List Fa)) (env : List Bi) (got : List Fa) (s : List (List Fa) × Nat) (x : Fa) : List (List Fa) × Nat :=
  if 30000 < s.2 then s else match litF ho li x env with
    | some e => frm ho ls e (got ++ [x]) (s.1, s.2 + 1)
    | none => (s.1, s.2 + 1)
theorem frm_cons {ho : Tm} {p : Li × List Fa} {ls : List (Li × List Fa)} {env : List Bi} {got : List Fa} {s : List (List Fa) × Nat} : frm ho (p :: ls) env got s = p.2.foldl (stp ho p.1 ls env got) s := rfl
theorem stp_heavy {ho : Tm} {li : Li} {ls : List (Li × List Fa)} {env : List Bi} {got : List Fa} {s : List (List Fa) × Nat} (h : 30000 < s.2) : ∀ l : List Fa, l.foldl (stp ho li ls env got) s = s
  | [] => rfl
  | x :: l => by rw [List.foldl_cons]; unfold stp; rw [if_pos h]; exact stp_heavy h l
theorem frm_bd (ho : Tm) : ∀ (ls : List (Li × List Fa)) (env : List Bi) (got : List Fa) (s : List (List Fa) × Nat), s.1.length ≤ s.2 → s.2 ≤ 30001 → (frm ho ls env got s).1.length ≤ (frm ho ls env got s).2 + 1 ∧ (frm ho ls env got s).2 ≤ 30001
  | [], env, got, s, h1, h2 => ⟨Nat.le_trans ins_len (by simp only [frm]; omega), h2⟩
  | p :: ls, env, got, s, h1, h2 => by
    rw [frm_cons]
    have key : ∀ (l : List Fa) (s : List (List Fa) × Nat), s.1.length ≤ s.2 + 1 → s.2 ≤ 30001 → (l.foldl (stp ho p.1 ls env got) s).1.length ≤ (l.foldl (stp ho p.1 ls env got) s).2 + 1 ∧ (l.foldl (stp ho p.1 ls env got) s).2 ≤ 30001 := by
      intro l
      induction l with
      | nil => exact fun s h1 h2 => ⟨h1, h2⟩
      | cons x l ih =>
        intro s h1 h2
        rw [List.foldl_cons]
        have : (stp ho p.1 ls env got s x).1.length ≤ (stp ho p.1 ls env got s x).2 + 1 ∧ (stp ho p.1 ls env got s x).2 ≤ 30001 := by
          unfold stp
          split
          · exact ⟨h1, h2⟩
          · split
            · exact frm_bd ho ls _ _ _ (by simp only; omega) (by simp only; omega)
            · exact ⟨by simp only; omega, by simp only; omega⟩
        exact ih _ this.1 this.2
    exact key _ _ (by omega) h2
theorem frm_sm (ho : Tm) : ∀ (ls : List (Li × List Fa)) (env : List Bi) (got : List Fa) (s : List (List Fa) × Nat), (∀ a ∈ s.1, SmB a) → (∀ x ∈ got, x.Sm) → (∀ p ∈ ls, ∀ x ∈ p.2, x.Sm) → got.length + ls.length ≤ 1000000000 → ∀ a ∈ (frm ho ls env got s).1, SmB a
  | [], env, got, s, h1, h2, h3, h4, a, ha => by
    rcases (ins_mem cmpB_ord).1 ha with rfl | ha
    · exact ⟨by simpa using h4, h2⟩
    · exact h1 a ha
  | p :: ls, env, got, s, h1, h2, h3, h4, a, ha => by
    rw [frm_cons] at ha
    have h3' := h3 p (List.mem_cons_self ..)
    revert ha
    generalize p.2 = l at h3'
    induction l generalizing s with
    | nil => exact fun ha => h1 a ha
    | cons x l ih =>
      rw [List.foldl_cons]
      refine ih _ (fun b hb => ?_) fun y hy => h3' y (List.mem_cons_of_mem _ hy)
      revert hb
      unfold stp
      split
      · exact fun hb => h1 b hb
      · split
        · rename_i e _
          intro hb
          refine frm_sm ho ls e (got ++ [x]) (s.1, s.2 + 1) h1 ?_ (fun p hp => h3 p (List.mem_cons_of_mem _ hp)) (by simp only [List.length_append, List.length_cons, List.length_nil] at *; omega) b hb
          intro y hy
          rcases List.mem_append.1 hy with hy | hy
          · exact h2 y hy
          · rw [List.mem_singleton.1 hy]; exact h3' x (List.mem_cons_self ..)
        · exact fun hb => h1 b hb
/-- Small rules. -/
def candF (first : Int) (f : Fa) (l : List Fa) (k : Nat) : List Fa := if (k : Int) = first then [f] else l
def lsF (r : Rl) (first : Int) (f : Fa) (l : List Fa) (k m : Nat) : List (Li × List Fa) := (List.range' k m).map fun i => (r.bo.getD i .zero, candF first f l i)
theorem li_get {l : List Li} {i : Nat} (h : i < l.length) : l.getD i .zero = l[i] := by simp [List.getD_eq_getElem?_getD, h]
section
variable {β σ : St} {x : Nat}
theorem from_at (r : Rl) (first : Int) (f : Fa) (l : List Fa) (hr : r.S3) (hf : f.Sm) (hl : l.length ≤ 1000000) (hls : ∀ y ∈ l, y.Sm) : ∀ (m k : Nat) {β σ : St} {env : List Bi} {got : List Fa} {out : List (List Fa)} {d : Nat}, k + m = r.bo.length → got.length = k → env.length ≤ 10 + 302 * k → (∀ y ∈ got, y.Sm) →
    FI β σ x out d → out.length ≤ d → d ≤ 30001 → (∀ a ∈ out, SmB a) →
    AT Tryz.prog 92 [ptr x, .agg r.cs, int first, .agg f.cs, .sl 4 (faC l), .sl 4 (biC env), .sl 4 (faC got)] σ fun _ σ' => FI β σ' x (frm r.ho (lsF r first f l k m) env got (out, d)).1 (frm r.ho (lsF r first f l k m) env got (out, d)).2 := by
  intro m
  induction m with
  | zero =>
    intro k β σ env got out d hk hg he hgs h hod hd hos
    refine AT.of_body Tryz.func92 rfl (by decide) (by kernel_rfl) (by kernel_rfl) (Nat.le_of_ble_eq_true rfl) ?_
    simp only [go_sem]
    refine Ctx.nil.alloc fun p σ1 c1 => ?_
    simp only [go_sem]
    refine c1.alloc fun q σ2 c2 => ?_
    have h := h.mono c2.sub
    have dd := decide_eq_true (show (got.length : Int) = r.bo.length by omega)
    simp only [go_sem, c2.g1, dd]
    refine (add_at h (by omega) hos ⟨by have := hr.1; omega, hgs⟩).mono ?_
    intro _ σ3 h3
    simp only [go_sem]
    exact aRet_as (r := .tup []) rfl h3
  | succ m ih =>
    intro k β σ env got out d hk hg he hgs h hod hd hos
    refine AT.of_body Tryz.func92 rfl (by decide) (by kernel_rfl) (by kernel_rfl) (Nat.le_of_ble_eq_true rfl) ?_
    simp only [go_sem]
    refine Ctx.nil.alloc fun p σ1 c1 => ?_
    simp only [go_sem]
    refine c1.alloc fun q σ2 c2 => ?_
    have h := h.mono c2.sub
    have hx0 : p ≠ x ∧ q ≠ x := by
      obtain ⟨lv, h1, h2, h3⟩ := ‹FI β σ x out d›
      exact ⟨fun e => (by have := c2.frs (p, .cells r.cs) (by simp); rw [e, h1] at this; cases this), fun e => (by have := c2.frs (q, .cells f.cs) (by simp); rw [e, h1] at this; cases this)⟩
    obtain ⟨β', hF, hββ, hcl⟩ := h.base
    have kp := hcl p _ c2.g1.1.2 hx0.1
    have kq := hcl q _ c2.g1.1.1 hx0.2
    have hkn : k < r.bo.length := by omega
    have hlk := hr.2 _ (List.getElem_mem hkn)
    have hr1 := hr.1
    have dd := decide_eq_false (show ¬ (got.length : Int) = r.bo.length by omega)
    have els : lsF r first f l k (m + 1) = (r.bo[k], candF first f l k) :: lsF r first f l (k + 1) m := by
      unfold lsF
      rw [List.range'_succ, List.map_cons, li_get hkn]
    rw [els]
    obtain ⟨cd, hcd⟩ : ∃ cd, cd = candF first f l k := ⟨_, rfl⟩
    have hcl : cd.length ≤ 1000000 := by rw [hcd]; unfold candF; split
                                         · simp
                                         · exact hl
    have hcs : ∀ y ∈ cd, y.Sm := by
      rw [hcd]; unfold candF; split
      · intro y hy; rw [List.mem_singleton.1 hy]; exact hf
      · exact hls
    simp only [go_sem, c2.g1, dd]
    rw [← hcd, frm_cons]
    refine aIf_meet (fun fr σ' => ∃ lc, (lc = .sl 4 (faC cd) ∨ lc = .fsl 4 (faC cd)) ∧ σ' = σ2 ∧ fr 0 = ptr x ∧ fr 2 = int first ∧ fr 4 = .sl 4 (faC l) ∧ fr 5 = .sl 4 (biC env) ∧ fr 6 = .sl 4 (faC got) ∧ fr 8 = ptr p ∧ fr 10 = ptr q ∧ fr 14 = int k ∧ fr 15 = lc) (fun h0 => ?_) (fun h0 => ?_) ?_
    · have e : cd = [f] := by rw [hcd]; unfold candF; rw [if_pos (by omega)]
      simp only [go_sem, c2.g1]
      refine ⟨.fsl 4 (faC cd), .inr rfl, ?_⟩
      rw [hg, e]
      (and_intros <;> first | assumption | rfl | omega)
    · have e : cd = l := by rw [hcd]; unfold candF; rw [if_neg (by omega)]
      simp only [go_sem]
      refine ⟨.sl 4 (faC cd), .inl rfl, ?_⟩
      rw [hg, e]
      (and_intros <;> first | assumption | rfl | omega)
    rintro fr σ' ⟨lc, hlc, rfl, f0, f2, f4, f5, f6, f8, f10, f14, f15⟩
    have hR : ∀ σ'', Rd 4 σ'' lc (faC cd) := fun σ'' => by
      rcases hlc with rfl | rfl
      · exact .sl
      · exact .of .full
    obtain ⟨S0, hS0⟩ : ∃ S0, S0 = cd.foldl (stp r.ho r.bo[k] (lsF r first f l (k + 1) m) env got) (out, d) := ⟨_, rfl⟩
    rw [← hS0]
    simp only [go_sem, r_block]
    refine ⟨fun mm fr σ' => ∃ (i : Nat) (s : List (List Fa) × Nat), mm = cd.length - i ∧ i ≤ cd.length ∧ FI β' σ' x s.1 s.2 ∧ (cd.drop i).foldl (stp r.ho r.bo[k] (lsF r first f l (k + 1) m) env got) s = S0 ∧ s.1.length ≤ s.2 + 1 ∧ s.2 ≤ 30001 ∧ (∀ a ∈ s.1, SmB a) ∧ fr 0 = ptr x ∧ fr 2 = int first ∧ fr 4 = .sl 4 (faC l) ∧ fr 5 = .sl 4 (biC env) ∧ fr 6 = .sl 4 (faC got) ∧ fr 8 = ptr p ∧ fr 10 = ptr q ∧ fr 14 = int k ∧ fr 15 = lc ∧ fr 16 = int i, ⟨_, 0, (out, d), rfl, by omega, hF, by rw [hS0]; rfl, by simp only; omega, hd, hos, f0, f2, f4, f5, f6, f8, f10, f14, f15, rfl⟩, ?_⟩
    clear f0 f2 f4 f5 f6 f8 f10 f14 f15 hF fr c1 c2
    rintro mm fr σ3 ⟨i, s, rfl, hi, hF, hI, hs1, hs2, hs3, f0, f2, f4, f5, f6, f8, f10, f14, f15, f16⟩
    have fin : S0 = s → FI β σ3 x S0.1 S0.2 := fun e => by rw [e]; exact hF.sub hββ
    obtain ⟨lv, x1, x2, x3⟩ := hF
    have hF : FI β' σ3 x s.1 s.2 := ⟨lv, x1, x2, x3⟩
    by_cases hlt : i < cd.length
    · have d1 := decide_eq_true (show (i : Int) < cd.length by omega)
      by_cases hh : 30000 < s.2
      · have d2 := decide_eq_true hh
        simp only [go_sem, r_block, f0, f15, f16, (hR σ3).len, d1, x1, d2]
        exact aRet_as (r := .tup []) rfl (fin (by rw [← hI, stp_heavy hh]))
      · have d2 := decide_eq_false hh
        have w1 : IntKind.i64.wrap ((s.2 : Int) + 1) = ((s.2 + 1 : Nat) : Int) := next64 (by omega)
        simp only [go_sem, r_block, f0, f15, f16, (hR σ3).len, d1, x1, d2, w1]
        refine aIf_meet (fun fr σ' => FI β' σ' x s.1 (s.2 + 1) ∧ fr 0 = ptr x ∧ fr 2 = int first ∧ fr 4 = .sl 4 (faC l) ∧ fr 5 = .sl 4 (biC env) ∧ fr 6 = .sl 4 (faC got) ∧ fr 8 = ptr p ∧ fr 10 = ptr q ∧ fr 14 = int k ∧ fr 15 = lc ∧ fr 16 = int i) (fun h0 => ?_) (fun h0 => ?_) ?_
        · simp only [go_sem, f0]
          have hp := FI.put (b := true) x1 x2 x3 (decide_eq_true (show 30000 < s.2 + 1 by omega)).symm
          (and_intros <;> first | assumption | rfl | omega)
        · simp only [go_sem, f0]
          have hp := FI.put (b := false) x1 x2 x3 (decide_eq_false (show ¬ 30000 < s.2 + 1 by omega)).symm
          (and_intros <;> first | assumption | rfl | omega)
        clear f0 f2 f4 f5 f6 f8 f10 f14 f15 f16 hF x1 x2 x3 fin
        rintro fr σ4 ⟨hF, f0, f2, f4, f5, f6, f8, f10, f14, f15, f16⟩
        have kp4 := hF.keep kp
        have kq4 := hF.keep kq
        simp only [go_sem]
        refine aDraw_plan [.rd 0 false, .rd 1 true, .rd 2 false, .rd 3 true, .rd 4 false, .rd 5 false, .rd 6 true, .rd 7 false, .rd 8 false, .rd 9 false, .rd 10 true, .rd 11 false, .ef 12 [], .rd 13 false, .rd 14 false, .rd 15 false, .rd 16 false, .rd 17 false] (by kernel_rfl) (by kernel_rfl) (by kernel_rfl) ?_
        simp only [go_sem, f5, f8, f14, f15, f16, kp4, liC_get hkn]
        refine ⟨by omega, (hR σ4).elem (by omega) (by rw [faC_len]; omega) fun e he => ?_⟩
        simp only [go_sem]
        refine he.load (by decide) (by rw [Int.toNat_natCast, faC_get hlt]; exact Nat.le_refl 4) ?_
        simp only [go_sem, f5, f8, f14, f15, f16, kp4, faC_get hlt]
        refine (rlit_at r.ho r.bo[k] cd[i] env (by omega) (by omega)).mono ?_
        rintro _ σ4 ⟨rfl, rfl⟩
        have hstep : S0 = (cd.drop (i + 1)).foldl (stp r.ho r.bo[k] (lsF r first f l (k + 1) m) env got) (stp r.ho r.bo[k] (lsF r first f l (k + 1) m) env got s cd[i]) := by
          rw [← hI, List.drop_eq_getElem_cons hlt]; rfl
        cases hv : litF r.ho r.bo[k] cd[i] env with
        | none =>
          have e1 : stp r.ho r.bo[k] (lsF r first f l (k + 1) m) env got s cd[i] = (s.1, s.2 + 1) := by unfold stp; rw [if_neg hh, hv]
          rw [e1] at hstep
          simp only [go_sem, r_block, f0, f2, f4, f5, f6, f8, f10, f14, f15, f16, next64 (show i < 9223372036854775807 by omega)]
          refine ⟨cd.length - (i + 1), by omega, i + 1, (s.1, s.2 + 1), ?_⟩
          have hI' := hstep.symm
          have k1 : s.1.length ≤ s.2 + 1 + 1 := by omega
          have k2 : s.2 + 1 ≤ 30001 := by omega
          (and_intros <;> first | assumption | rfl | omega)
        | some e2 =>
          have e1 : stp r.ho r.bo[k] (lsF r first f l (k + 1) m) env got s cd[i] = frm r.ho (lsF r first f l (k + 1) m) e2 (got ++ [cd[i]]) (s.1, s.2 + 1) := by unfold stp; rw [if_neg hh, hv]
          rw [e1] at hstep
          have hel := lit_len hv
          simp only [go_sem, r_block]
          refine aDraw_plan [.rd 0 false, .rd 1 true, .rd 2 false, .rd 3 true, .rd 4 false, .rd 5 false, .rd 6 false, .rd 7 false, .rd 9 false, .rd 10 false, .rd 11 false, .rd 12 true, .rd 13 false, .ef 8 [1, 3, 12], .ef 14 [1, 3], .ef 15 []] (by kernel_rfl) (by kernel_rfl) (by kernel_rfl) ?_
          simp only [go_sem, r_block, f0, f2, f4, f6, f8, f10, f15, f16, kp4, kq4]
          refine (hR σ4).elem (by omega) (by rw [faC_len]; omega) fun e he => ?_
          simp only [go_sem, r_block]
          refine he.load (by decide) (by rw [Int.toNat_natCast, faC_get hlt]; exact Nat.le_refl 4) ?_
          simp only [go_sem, r_block, f6, faC_get hlt]
          refine aApp_by (ys := faC got) (by simp [src]) (by decide) (by decide) (by decide) (LAt.full.app (by rw [faC_len]; simp only [List.length_nil]; omega) fun l1 σ5 h1 g1 => ?_)
          have G1 : Grow σ4 σ5 l1 := fun y o hy => g1 y o hy own_no_fsl
          have kp5 := G1.sub _ _ kp4
          have kq5 := G1.sub _ _ kq4
          simp only [go_sem, r_block, f8, f10, kp5, kq5]
          refine ⟨fun kk hkk => (he.keep G1.sub).load (by decide) (by rw [Int.toNat_natCast, faC_get hlt]; exact Nat.le_refl 4) (by simp only [go_sem, faC_get hlt]; exact hkk), ?_⟩
          refine aApp_by (ys := [cd[i].cs]) (by rfl) (by decide) (by decide) (by decide) (h1.app (by rw [List.nil_append, faC_len]; simp only [List.length_nil, List.length_cons]; omega) fun l2 σ6 h2 g2 => ?_)
          have G2 := G1.step g2
          have kp6 := G2.sub _ _ kp4
          have kq6 := G2.sub _ _ kq4
          have el : [] ++ faC got ++ [cd[i].cs] = faC (got ++ [cd[i]]) := by simp [faC]
          rw [el] at h2
          simp only [go_sem, r_block, f0, f2, f4, f8, f10, kp6, kq6]
          have hF6 := hF.mono G2.sub
          have hF7 : FI β' (St.free σ6 l2) x s.1 (s.2 + 1) := by
            obtain ⟨lv, y1, y2, y3⟩ := hF
            have hn := fun y o (hy : σ4 y = some o) => (G2 y o hy).2
            refine ⟨lv, by rw [free_ne (hn _ _ y1)]; exact G2.sub _ _ y1, y2.keep fun y o hy _ => by rw [free_ne (hn _ _ hy)]; exact G2.sub _ _ hy, fun y o hy => ⟨by rw [free_ne (hn _ _ (y3 y o hy).1)]; exact G2.sub _ _ (y3 y o hy).1, (y3 y o hy).2⟩⟩
          refine AT.pre (args' := [ptr x, .agg r.cs, int first, .agg f.cs, .sl 4 (faC l), .sl 4 (biC e2), .sl 4 (faC (got ++ [cd[i]]))]) ((ih (k + 1) (by omega) (by simp; omega) (by omega) (fun y hy => ?_) hF7 (by omega) (by omega) hs3).mono ?_) (by kernel_rfl) sv_free (vws_same (vws_same (vws_same (vws_same (vws_same (vws_same (vws_cons h2.vw_free vws_nil)))))))
          · rcases List.mem_append.1 hy with hy | hy
            · exact hgs y hy
            · rw [List.mem_singleton.1 hy]; exact hcs _ (List.getElem_mem hlt)
          intro _ σ7 h7
          have hb := frm_bd r.ho (lsF r first f l (k + 1) m) e2 (got ++ [cd[i]]) (s.1, s.2 + 1) (by simp only; omega) (by simp only; omega)
          have hsm : ∀ a ∈ (frm r.ho (lsF r first f l (k + 1) m) e2 (got ++ [cd[i]]) (s.1, s.2 + 1)).1, SmB a := frm_sm r.ho _ _ _ _ hs3 (fun y hy => by
            rcases List.mem_append.1 hy with hy | hy
            · exact hgs y hy
            · rw [List.mem_singleton.1 hy]; exact hcs _ (List.getElem_mem hlt)) (fun pp hpp y hy => by
            unfold lsF at hpp
            obtain ⟨j, _, rfl⟩ := List.mem_map.1 hpp
            simp only at hy
            unfold candF at hy
            split at hy
            · rw [List.mem_singleton.1 hy]; exact hf
            · exact hls y hy) (by simp [lsF]; omega)
          simp only [go_sem, r_block, f0, f2, f4, f5, f6, f8, f10, f14, f15, f16, next64 (show i < 9223372036854775807 by omega)]
          refine ⟨cd.length - (i + 1), by omega, i + 1, frm r.ho (lsF r first f l (k + 1) m) e2 (got ++ [cd[i]]) (s.1, s.2 + 1), ?_⟩
          have hI' := hstep.symm
          have hb1 := hb.1
          have hb2 := hb.2
          (and_intros <;> first | assumption | rfl | omega)
    · have d1 := decide_eq_false (show ¬ (i : Int) < cd.length by omega)
      simp only [go_sem, r_block, f0, f15, f16, (hR σ3).len, d1]
      exact aRet_as (r := .tup []) rfl (fin (by rw [← hI, List.drop_of_length_le (by omega)]; rfl))
end
end Go.Proofs.YthdfpankebjleaaGreat

/-
  A literal made a fact, as the program reckons it.
  Conditions: none.
-/
namespace Go.Proofs.YthdfpankebjleaaGreat
open Go Go.Av

section
variable {σ : St}
theorem lit_at (ho : Tm) (l : Li) (f : Fa) (env : List Bi) (hl : env.length ≤ 100000) (ha : l.ar.length ≤ 100000) : AT Tryz.prog 30 [.agg ho.cs, .agg l.cs, .agg f.cs, .sl 4 (biC env)] σ fun r σ' => r = resU (litF ho l f env) ∧ σ' = σ := by
  refine AT.of_body Tryz.func30 rfl (by decide) (by kernel_rfl) (by kernel_rfl) (Nat.le_of_ble_eq_true rfl) ?_
  simp only [go_sem]
  refine Ctx.nil.alloc fun p σ1 c1 => ?_
  simp only [go_sem]
  refine c1.alloc fun q σ2 c2 => ?_
  simp only [go_sem]
  refine c2.alloc fun x σ3 c3 => ?_
  by_cases h1 : l.nm = f.pr
  · simp only [go_sem, c3.g2, h1]
    refine aIf_by (fun h2 => ?_) (fun h2 => ?_)
    · have h2 : l.ar.length = f.ar.length := by omega
      have hlf := litF_on (ho := ho) (env := env) h1 h2
      simp only [go_sem]
      refine aDraw_plan [.rd 0 false, .rd 1 true, .rd 2 true, .rd 4 false, .rd 5 true, .rd 7 false, .ef 3 [5], .ef 6 [], .ef 8 [], .rd 9 false, .rd 10 false, .rd 11 false, .rd 12 false, .rd 13 false] (by kernel_rfl) (by kernel_rfl) (by kernel_rfl) ?_
      simp only [go_sem, c3.g2]
      refine (or_at' l.at' ho).mono ?_
      rintro _ σ3 ⟨rfl, rfl⟩
      simp only [go_sem, c3.g2]
      refine (text_at f.at').mono ?_
      rintro _ σ3 ⟨rfl, rfl⟩
      simp only [go_sem, c3.g2]
      refine (unify_at (orT l.at' ho) (nmC f.at') env (by omega)).mono ?_
      rintro _ σ3 ⟨rfl, rfl⟩
      simp only [go_sem]
      cases hu : uniF (orT l.at' ho) (nmC f.at') env with
      | none =>
        have hn : litF ho l f env = none := by rw [hlf]; unfold litA; rw [hu]; rfl
        simp only [go_sem]
        exact ret_fail rfl c3.sub hn
      | some e =>
        have he := uni_len hu
        simp only [go_sem, c3.g2]
        refine tm_eq ?_
        simp only [go_sem]
        refine aIf_meet (fun fr σ' => ∃ (b : Bool) (e2 : List Bi), σ' = σ3 ∧ (b = true → litA ho l f env = some e2) ∧ (b = false → litF ho l f env = none) ∧ e2.length ≤ env.length + 2 ∧ fr 3 = .sl 4 (biC e2) ∧ fr 5 = ptr q ∧ fr 6 = ptr x ∧ fr 10 = boo b) (fun h0 => ?_) (fun h0 => ?_) ?_
        · simp only [go_sem, c3.g2]
          refine ⟨decide (f.by' = f.at'), e, ?_⟩
          have g1 : decide (f.by' = f.at') = true → litA ho l f env = some e := fun h3 => by unfold litA; rw [hu]; simp [h0, of_decide_eq_true h3]
          have g2 : decide (f.by' = f.at') = false → litF ho l f env = none := fun h3 => by rw [hlf]; unfold litA; rw [hu]; simp [h0, of_decide_eq_false h3]
          (and_intros <;> first | assumption | rfl | omega)
        · simp only [go_sem]
          refine aDraw_plan [.rd 0 false, .rd 1 true, .rd 2 false, .rd 3 true, .rd 5 false, .ef 4 [1], .ef 6 [], .rd 7 false, .rd 8 false, .rd 9 false, .rd 10 false, .rd 11 false] (by kernel_rfl) (by kernel_rfl) (by kernel_rfl) ?_
          simp only [go_sem, c3.g2]
          refine (text_at f.by').mono ?_
          rintro _ σ3 ⟨rfl, rfl⟩
          simp only [go_sem, c3.g2]
          refine (unify_at l.by' (nmC f.by') e (by omega)).mono ?_
          rintro _ σ3 ⟨rfl, rfl⟩
          simp only [go_sem]
          refine ⟨(uniF l.by' (nmC f.by') e).isSome, (uniF l.by' (nmC f.by') e).getD [], ?_⟩
          have g1 : (uniF l.by' (nmC f.by') e).isSome = true → litA ho l f env = some ((uniF l.by' (nmC f.by') e).getD []) := fun h3 => by
            obtain ⟨y, hy⟩ := Option.isSome_iff_exists.1 h3
            unfold litA; rw [hu]; simp [h0, hy]
          have g2 : (uniF l.by' (nmC f.by') e).isSome = false → litF ho l f env = none := fun h3 => by
            rw [Option.isSome_eq_false_iff, Option.isNone_iff_eq_none] at h3
            rw [hlf]; unfold litA; rw [hu]; simp [h0, h3]
          have g3 : ((uniF l.by' (nmC f.by') e).getD []).length ≤ env.length + 2 := by
            cases hv : uniF l.by' (nmC f.by') e with
            | none => simp
            | some y => have := uni_len hv; simp only [Option.getD_some]; omega
          (and_intros <;> first | assumption | rfl | omega)
        rintro fr σ4 ⟨b, e2, rfl, g1, g2, hl2, f3, f5, f6, f10⟩
        simp only [go_sem, r_block, f5, c3.g2]
        refine ⟨fun m fr σ'' => ∃ (i : Nat) (b : Bool) (ei : List Bi), m = l.ar.length - i ∧ i ≤ l.ar.length ∧ Ctx σ [(x, .cells f.cs), (q, .cells l.cs), (p, .cells ho.cs)] σ'' ∧ (b = true → (litA ho l f env).bind (uniS ((l.ar.take i).zip (f.ar.take i))) = some ei) ∧ (b = false → litF ho l f env = none) ∧ ei.length ≤ env.length + 2 + i ∧ fr 3 = .sl 4 (biC ei) ∧ fr 6 = ptr x ∧ fr 10 = boo b ∧ fr 61 = .sl 4 (tmC l.ar) ∧ fr 62 = int l.ar.length ∧ fr 63 = int i, ⟨_, 0, b, e2, rfl, by omega, c3, fun h => (by rw [g1 h]; rfl), g2, by omega, f3, f6, f10, rfl, rfl, rfl⟩, ?_⟩
        clear f3 f5 f6 f10 g1 g2 c3 c2 c1 hl2 hu he
        rintro m fr σ4 ⟨i, b, ei, rfl, hi, c3, g1, g2, hli, f3, f6, f10, f61, f62, f63⟩
        simp only [go_sem, f62, f63]
        refine aIf_by (fun hlt => ?_) (fun hlt => ?_)
        · have hil : i < l.ar.length := by omega
          have hif : i < f.ar.length := by omega
          simp only [go_sem, r_block, f61, f63, tmC_get hil]
          refine ⟨by omega, c3.alloc fun r σ5 c4 => ?_⟩
          obtain ⟨σ6, e6, c5⟩ := c4.abs 0 rfl (.cells l.ar[i].cs)
          simp only [go_sem, c4.g3, e6, f10]
          cases b with
          | false =>
            simp only [go_sem, f10]
            exact ret_fail rfl c5.sub (g2 rfl)
          | true =>
            have g1 := g1 rfl
            simp only [go_sem, r_block]
            refine aDraw_plan [.rd 0 true, .rd 1 false, .rd 2 true, .rd 3 false, .rd 4 false, .rd 5 true, .rd 6 false, .ef 7 [], .rd 8 false, .rd 9 false, .rd 10 false, .rd 11 false, .rd 12 false] (by kernel_rfl) (by kernel_rfl) (by kernel_rfl) ?_
            simp only [go_sem, r_block, f3, f6, f10, f63, c5.g3, cnC_get hif]
            refine ⟨by omega, (unify_at l.ar[i] f.ar[i] ei (by omega)).mono ?_⟩
            rintro _ σ6 ⟨rfl, rfl⟩
            simp only [go_sem, r_block, f6, f61, f62, f63, next64 (show i < 9223372036854775807 by omega)]
            have hs : (litA ho l f env).bind (uniS ((l.ar.take (i + 1)).zip (f.ar.take (i + 1)))) = uniF l.ar[i] f.ar[i] ei := by
              cases hA : litA ho l f env with
              | none => rw [hA] at g1; cases g1
              | some a =>
                rw [hA] at g1
                rw [Option.bind_some] at g1 ⊢
                rw [unis_take hil hif, g1]; rfl
            refine ⟨l.ar.length - (i + 1), by omega, i + 1, (uniF l.ar[i] f.ar[i] ei).isSome, (uniF l.ar[i] f.ar[i] ei).getD [], ?_⟩
            have k1 : (uniF l.ar[i] f.ar[i] ei).isSome = true → (litA ho l f env).bind (uniS ((l.ar.take (i + 1)).zip (f.ar.take (i + 1)))) = some ((uniF l.ar[i] f.ar[i] ei).getD []) := fun h3 => by
              obtain ⟨y, hy⟩ := Option.isSome_iff_exists.1 h3
              rw [hs, hy]; rfl
            have k2 : (uniF l.ar[i] f.ar[i] ei).isSome = false → litF ho l f env = none := fun h3 => by
              rw [Option.isSome_eq_false_iff, Option.isNone_iff_eq_none] at h3
              rw [h3] at hs
              have e1 : l.ar.zip f.ar = (l.ar.take (i + 1)).zip (f.ar.take (i + 1)) ++ (l.ar.drop (i + 1)).zip (f.ar.drop (i + 1)) := by
                rw [← List.zip_append (by simp; omega), List.take_append_drop, List.take_append_drop]
              rw [hlf, e1]
              cases hA : litA ho l f env with
              | none => rfl
              | some a =>
                rw [hA, Option.bind_some] at hs
                rw [Option.bind_some, unis_app, hs]
                rfl
            have k3 : ((uniF l.ar[i] f.ar[i] ei).getD []).length ≤ env.length + 2 + (i + 1) := by
              cases hv : uniF l.ar[i] f.ar[i] ei with
              | none => simp
              | some y => have := uni_len hv; simp only [Option.getD_some]; omega
            have k4 := c5.tl
            (and_intros <;> first | assumption | rfl | omega)
        · simp only [go_sem, r_block, f3, f10]
          cases b with
          | false =>
            simp only [go_sem]
            exact ret_fail rfl c3.sub (g2 rfl)
          | true =>
            have g1 := g1 rfl
            rw [List.take_of_length_le (by omega), List.take_of_length_le (by omega)] at g1
            simp only [go_sem, f3]
            exact ret_env rfl c3.sub (by rw [hlf, g1])
    · have hn : litF ho l f env = none := litF_off fun h => h2 (by rw [h.2])
      simp only [go_sem]
      exact ret_fail rfl c3.sub hn
  · have hn : litF ho l f env = none := litF_off fun h => h1 h.1
    simp only [go_sem, c3.g2, h1]
    exact ret_fail rfl c3.sub hn
end
end Go.Proofs.YthdfpankebjleaaGreat

/-
  In which order literals are looked for: what is known of a literal.
  Conditions: none.
-/
namespace Go.Proofs.YthdfpankebjleaaGreat
open Go Go.Av

section
variable {σ : St} {lv : AV} {vs : List ByteArray}
/-- Of a literal, the plan. -/
theorem knows_at (l : Li) (ha : l.ar.length ≤ 1000000) (hl : vs.length ≤ 1000000000) (h : Rd 1 σ lv (stC vs)) : AT Tryz.prog 94 [.agg l.cs, lv] σ fun r σ' => r = int (knL l vs) ∧ σ' = σ := by
  refine AT.of_body Tryz.func94 rfl (by decide) (by kernel_rfl) (by kernel_rfl) (Nat.le_of_ble_eq_true rfl) ?_
  simp only [go_sem]
  refine aNew_intro fun b hb _ => ?_
  simp only [go_sem, r_block, set_same]
  refine aApp_by (ys := tmC l.ar) (by simp [src]) (by decide) (by decide) (by decide) (LAt.full.app (by rw [tmC_len]; simp; omega) fun lw σ1 hw hs => ?_)
  have hno : ∀ x, ¬ Own (.fsl 4 [l.by'.cs]) x := fun x ⟨n, c, e⟩ => by cases e
  have hs1 : ∀ x o, σ x = some o → σ1 x = some o := fun x o hx => (hs x o (set_sub hb (fun _ _ h => h) x o hx) (hno x)).1
  have hw : LAt 4 σ1 lw (tmC (l.by' :: l.ar)) := hw
  obtain ⟨ts, hts⟩ : ∃ ts, ts = l.by' :: l.ar := ⟨_, rfl⟩
  have htl : ts.length ≤ 1000001 := by subst hts; simp; omega
  rw [← hts] at hw
  simp only [go_sem, r_block, hw.len]
  refine ⟨fun m fr σ' => ∃ i : Nat, m = ts.length - i ∧ i ≤ ts.length ∧ (∀ x o, σ1 x = some o → σ' x = some o) ∧ fr 1 = lv ∧ fr 13 = lw ∧ fr 14 = int ts.length ∧ fr 15 = int i ∧ fr 5 = int (knS (ts.take i) vs), ⟨_, 0, rfl, by omega, fun _ _ h => h, rfl, rfl, rfl, rfl, rfl⟩, ?_⟩
  clear hb
  rintro m fr σ2 ⟨i, rfl, h1, h2, f1, f13, f14, f15, f5⟩
  simp only [go_sem, f13, f14, f15]
  refine aIf_by (fun hlt => ?_) (fun hlt => ?_)
  · have hi : i < ts.length := by omega
    have hw2 : LAt 4 σ2 lw (tmC ts) := hw.keep fun x o hx _ => h2 x o hx
    simp only [go_sem, r_block, f13, f15]
    refine hw2.elem (by omega) (by rw [tmC_len]; omega) fun p hp => ?_
    simp only [go_sem, r_block]
    refine hp.load (by omega) (by rw [Int.toNat_natCast, tmC_get hi]; exact Nat.le_refl 4) ?_
    simp only [go_sem, tmC_get hi]
    refine aNew_intro fun c hc hcn => ?_
    have h3 : ∀ x o, σ1 x = some o → x ≠ c := fun x o hx => hcn x o (h2 x o hx)
    have e : knS (ts.take (i + 1)) vs = _ := knS_take vs hi
    have hk := knS_le vs (ts.take i)
    have hk2 := kn_le ts[i] vs
    rw [List.length_take] at hk
    simp only [go_sem, r_block, set_same]
    refine tm_ne ?_
    have go : ∀ x o, σ1 x = some o → (σ2.set c (.cells ts[i].cs)) x = some o := fun x o hx => by
      rw [set_ne (h3 x o hx)]; exact h2 x o hx
    have hr : Rd 1 (σ2.set c (.cells ts[i].cs)) lv (stC vs) := h.keep fun x o hx => go x o (hs1 x o hx)
    by_cases g1 : ts[i] = .zero
    · have ek : kn ts[i] vs = 0 := by unfold kn; rw [if_neg (fun h => h.1 g1)]
      simp only [go_sem, r_block, decide_eq_true g1, Bool.not_true, f15, f14, f13, f5, f1, next64 (show i < 9223372036854775807 by omega)]
      refine ⟨ts.length - (i + 1), by omega, i + 1, rfl, by omega, go, rfl, by rw [e, ek]; rfl⟩
    by_cases g2 : ts[i].v = emp
    · have ek : kn ts[i] vs = 1 := by unfold kn; rw [if_pos ⟨g1, .inl g2⟩]
      simp only [go_sem, r_block, decide_eq_false g1, Bool.not_false, set_same, decide_eq_true g2, f15, f14, f13, f5, f1, next64 (show i < 9223372036854775807 by omega), next64 (show knS (ts.take i) vs < 9223372036854775807 by omega)]
      refine ⟨ts.length - (i + 1), by omega, i + 1, rfl, by omega, go, rfl, by rw [e, ek]⟩
    · simp only [go_sem, r_block, decide_eq_false g1, Bool.not_false, set_same, decide_eq_false g2, f1]
      refine (has_at hl hr).mono ?_
      rintro _ σ3 ⟨rfl, rfl⟩
      simp only [go_sem, r_block, decide_eq_false g1, Bool.not_false, decide_eq_false g2]
      refine aIf_by (fun g3 => ?_) (fun g3 => ?_)
      · have ek : kn ts[i] vs = 1 := by unfold kn; rw [if_pos ⟨g1, .inr g3⟩]
        simp only [go_sem, r_block, f15, f14, f13, f5, f1, next64 (show i < 9223372036854775807 by omega), next64 (show knS (ts.take i) vs < 9223372036854775807 by omega)]
        exact ⟨ts.length - (i + 1), by omega, i + 1, rfl, by omega, go, rfl, by rw [e, ek]⟩
      · have ek : kn ts[i] vs = 0 := by unfold kn; rw [if_neg (fun h => h.2.elim g2 g3)]
        simp only [go_sem, r_block, f15, f14, f13, f5, f1, next64 (show i < 9223372036854775807 by omega)]
        exact ⟨ts.length - (i + 1), by omega, i + 1, rfl, by omega, go, rfl, by rw [e, ek]; rfl⟩
  · simp only [go_sem, r_block, f5]
    rw [List.take_of_length_le (by omega)]
    refine aRet_view (r := int (knS ts vs)) rfl _ σ (view_drop fun x o hx => h2 x o (hs1 x o hx)) ⟨by rw [hts]; rfl, rfl⟩
end
end Go.Proofs.YthdfpankebjleaaGreat

/-
  Two slices in variables that a closure writes; the closure of the plan's order.
  Conditions: none.
-/
namespace Go.Proofs.YthdfpankebjleaaGreat
open Go Go.Av

/-- A variable in memory that holds a slice. -/
structure CV (q : Nat) (σ : St) (p : Nat) (lv : AV) (es : List (List AV)) : Prop where
  cell : σ p = some (.cells [lv])
  lat : LAt q σ lv es
/-- A block that is none of the variable's. -/
def Off (p : Nat) (lv : AV) (x : Nat) : Prop := x ≠ p ∧ ¬ Own lv x
section
variable {q : Nat} {σ σ' σ1 : St} {p : Nat} {lv lw : AV} {es es' : List (List AV)}
theorem CV.keep (h : CV q σ p lv es) (hs : ∀ x o, σ x = some o → ¬ Off p lv x → σ' x = some o) : CV q σ' p lv es :=
  ⟨hs _ _ h.cell fun e => e.1 rfl, h.lat.keep fun x o hx ho => hs x o hx fun e => e.2 ho⟩
theorem CV.some (h : CV q σ p lv es) {x : Nat} (hx : ¬ Off p lv x) : ∃ o, σ x = Option.some o := by
  by_cases e : x = p
  · exact ⟨_, e ▸ h.cell⟩
  · by_cases e2 : Own lv x
    · obtain ⟨c, hc⟩ := h.lat.own_rows e2
      exact ⟨_, hc⟩
    · exact absurd ⟨e, e2⟩ hx
theorem CV.off (h : CV q σ p lv es) {x : Nat} {ob : AObj} (hx : σ x = Option.some ob) (n1 : ∀ a, ob ≠ .cells [a]) (n2 : ∀ es f c, ob ≠ .rows q es f c) : Off p lv x :=
  ⟨fun e => by subst e; exact n1 _ (Option.some.inj (hx.symm.trans h.cell)), fun e => by obtain ⟨c, hc⟩ := h.lat.own_rows e; exact n2 _ _ _ (Option.some.inj (hx.symm.trans hc))⟩
theorem CV.step (h : CV q σ p lv es) (hw : LAt q σ1 lw es') (hs : ∀ x o, σ x = Option.some o → ¬ Own lv x → σ1 x = Option.some o ∧ ¬ Own lw x) :
    CV q (σ1.set p (.cells [lw])) p lw es' ∧ ∀ x o, σ x = Option.some o → Off p lv x → (σ1.set p (.cells [lw])) x = Option.some o ∧ Off p lw x := by
  have h1 := hs p _ h.cell (h.lat.not_own h.cell)
  refine ⟨⟨set_same, lat_set hw h1.1 h1.2⟩, fun x o hx ho => ?_⟩
  have h2 := hs x o hx ho.2
  exact ⟨by rw [set_ne ho.1]; exact h2.1, ho.1, h2.2⟩
end

/-- The numbers that are out, and the variables that are known; nothing of β is touched. -/
def PO (β σ : St) (o v : Nat) (out : List Int) (vs : List ByteArray) : Prop :=
  ∃ lo lw, CV 1 σ o lo (inC out) ∧ CV 1 σ v lw (stC vs) ∧ (∀ x, Off o lo x ∨ Off v lw x) ∧ ∀ x p, β x = some p → σ x = some p ∧ Off o lo x ∧ Off v lw x
section
variable {β σ : St} {o v : Nat} {ou : List Int} {vs : List ByteArray}
theorem PO.sub (h : PO β σ o v ou vs) : ∀ x p, β x = some p → σ x = some p := by
  obtain ⟨lo, lw, h1, h2, h3, h4⟩ := h
  exact fun x p hx => (h4 x p hx).1
theorem PO.keep (h : PO β σ o v ou vs) {σ' : St} (hs : ∀ x p, σ x = some p → σ' x = some p) : PO β σ' o v ou vs := by
  obtain ⟨lo, lw, h1, h2, h3, h4⟩ := h
  exact ⟨lo, lw, h1.keep fun x p hx _ => hs x p hx, h2.keep fun x p hx _ => hs x p hx, h3, fun x p hx => ⟨hs x p (h4 x p hx).1, (h4 x p hx).2⟩⟩
theorem PO.weak (h : PO β σ o v ou vs) {γ : St} (hs : ∀ x p, γ x = some p → β x = some p) : PO γ σ o v ou vs := by
  obtain ⟨lo, lw, h1, h2, h3, h4⟩ := h
  exact ⟨lo, lw, h1, h2, h3, fun x p hx => h4 x p (hs x p hx)⟩
theorem PO.new (h : PO β σ o v ou vs) {c : Nat} {ob : AObj} (hc : σ c = none) : PO β (σ.set c ob) o v ou vs := by
  obtain ⟨lo, lw, h1, h2, h3, h4⟩ := h
  have hs : ∀ x p, σ x = some p → (σ.set c ob) x = some p := set_sub hc fun _ _ h => h
  exact ⟨lo, lw, h1.keep fun x p hx _ => hs x p hx, h2.keep fun x p hx _ => hs x p hx, h3, fun x p hx => ⟨hs x p (h4 x p hx).1, (h4 x p hx).2⟩⟩
/-- All that is not the variables' stays too. -/
theorem PO.base (h : PO β σ o v ou vs) : ∃ γ, PO γ σ o v ou vs ∧ (∀ x p, β x = some p → γ x = some p) ∧ ∀ x p, σ x = some p → (∀ a, p ≠ .cells [a]) → (∀ es f c, p ≠ .rows 1 es f c) → γ x = some p := by
  obtain ⟨lo, lw, h1, h2, h3, h4⟩ := h
  refine ⟨fun x => open Classical in if Off o lo x ∧ Off v lw x then σ x else none, ⟨lo, lw, h1, h2, h3, fun x p hx => ?_⟩, fun x p hx => ?_, fun x p hx n1 n2 => ?_⟩
  · by_cases e : Off o lo x ∧ Off v lw x
    · simp only [e, and_self, if_true] at hx; exact ⟨hx, e⟩
    · simp only [e, if_false] at hx; cases hx
  · have := h4 x p hx
    simp only [this.2, and_self, if_true]; exact this.1
  · have := And.intro (h1.off hx n1 n2) (h2.off hx n1 n2)
    simp only [this, and_self, if_true]; exact hx
/-- The walk's steps: what the first variable holds, one more behind it. -/
theorem PO.num (h : PO β σ o v ou vs) : ∃ lo, σ o = some (.cells [lo]) ∧ LAt 1 σ lo (inC ou) ∧ ∀ σ1 lo' ou', LAt 1 σ1 lo' (inC ou') → (∀ x p, σ x = some p → ¬ Own lo x → σ1 x = some p ∧ ¬ Own lo' x) → σ1 o = some (.cells [lo]) ∧ PO β (σ1.set o (.cells [lo'])) o v ou' vs := by
  obtain ⟨lo, lw, h1, h2, h3, h4⟩ := h
  refine ⟨lo, h1.cell, h1.lat, fun σ1 lo' ou' hl hs => ?_⟩
  obtain ⟨g1, g2⟩ := h1.step hl hs
  have k2 : CV 1 (σ1.set o (.cells [lo'])) v lw (stC vs) := h2.keep fun x p hx hn => (g2 x p hx ((h3 x).resolve_right hn)).1
  refine ⟨(hs o _ h1.cell (h1.lat.not_own h1.cell)).1, lo', lw, g1, k2, fun x => ?_, fun x p hx => ?_⟩
  · by_cases e : Off v lw x
    · exact .inr e
    · obtain ⟨p, hp⟩ := h2.some e
      exact .inl (g2 x p hp ((h3 x).resolve_right e)).2
  · have := h4 x p hx
    have k := g2 x p this.1 this.2.1
    exact ⟨k.1, k.2, this.2.2⟩
theorem PO.var (h : PO β σ o v ou vs) : ∃ lw, σ v = some (.cells [lw]) ∧ LAt 1 σ lw (stC vs) ∧ ∀ σ1 lw' vs', LAt 1 σ1 lw' (stC vs') → (∀ x p, σ x = some p → ¬ Own lw x → σ1 x = some p ∧ ¬ Own lw' x) → σ1 v = some (.cells [lw]) ∧ PO β (σ1.set v (.cells [lw'])) o v ou vs' := by
  obtain ⟨lo, lw, h1, h2, h3, h4⟩ := h
  refine ⟨lw, h2.cell, h2.lat, fun σ1 lw' vs' hl hs => ?_⟩
  obtain ⟨g1, g2⟩ := h2.step hl hs
  have k2 : CV 1 (σ1.set v (.cells [lw'])) o lo (inC ou) := h1.keep fun x p hx hn => (g2 x p hx ((h3 x).resolve_left hn)).1
  refine ⟨(hs v _ h2.cell (h2.lat.not_own h2.cell)).1, lo, lw', k2, g1, fun x => ?_, fun x p hx => ?_⟩
  · by_cases e : Off o lo x
    · exact .inl e
    · obtain ⟨p, hp⟩ := h1.some e
      exact .inr (g2 x p hp ((h3 x).resolve_left e)).2
  · have := h4 x p hx
    have k := g2 x p this.1 this.2.2
    exact ⟨k.1, this.2.1, k.2⟩
end

section
variable {β σ : St} {o v b : Nat} {out : List Nat} {vs : List ByteArray}
def nats (l : List Nat) : List Int := l.map Int.ofNat
@[go_sem] theorem nats_len (l : List Nat) : (nats l).length = l.length := by simp [nats]
theorem nats_mem {l : List Nat} {n : Nat} : (n : Int) ∈ nats l ↔ n ∈ l := by
  unfold nats
  rw [List.mem_map]
  exact ⟨fun ⟨a, h, e⟩ => by have e : a = n := Int.ofNat.inj e; rw [← e]; exact h, fun h => ⟨n, h, rfl⟩⟩
theorem nats_snoc {l : List Nat} {n : Nat} : inC (nats l) ++ [[int n]] = inC (nats (l ++ [n])) := by simp [inC, nats]

/-- A literal is taken. -/
theorem take_at (r : Rl) {k : Nat} (hk : k < r.bo.length) (hb : β b = some (.cells r.cs)) (h : PO β σ o v (nats out) vs) (h1 : out.length ≤ 1000000) (h2 : vs.length ≤ 1000000) (h3 : r.bo[k].ar.length ≤ 1000000) :
    AT Tryz.prog 93 [int k, ptr o, ptr b, ptr v] σ fun _ σ' => PO β σ' o v (nats (out ++ [k])) (ofLi r.bo[k] vs) := by
  refine AT.of_body Tryz.func93 rfl (by decide) (by kernel_rfl) (by kernel_rfl) (Nat.le_of_ble_eq_true rfl) ?_
  obtain ⟨lo, c1, c2, c3⟩ := h.num
  simp only [go_sem, r_block, c1, c2.one, c2.cells]
  refine aApp_by (ys := [[int k]]) (by simp [src]) (by decide) (by decide) (by decide) (c2.app (by rw [inC_len, nats_len]; simp; omega) fun lo' σ1 hl hs => ?_)
  rw [nats_snoc] at hl
  obtain ⟨d1, d2⟩ := c3 σ1 lo' _ hl hs
  simp only [go_sem, d1, hl.one, hl.cells]
  clear c1 c2 c3 hs h hl d1
  revert d2
  generalize σ1.set o (.cells [lo']) = σ2
  intro h
  have hb2 := h.sub _ _ hb
  simp only [go_sem, r_block, hb2, liC_get hk]
  refine ⟨by omega, aNew_intro fun c hc hcn => ?_⟩
  have h' := h.new (ob := .cells r.bo[k].cs) hc
  obtain ⟨γ, g1, g2, g3⟩ := h'.base
  have hcc : γ c = some (.cells r.bo[k].cs) := g3 c _ set_same (fun a e => by injection e with e; exact absurd (congrArg List.length e) (by rw [Li.len]; simp)) (fun _ _ _ e => by cases e)
  simp only [go_sem, r_block, set_same]
  clear hcn h hb2 hc
  revert h' g1 g2 g3 hcc
  intro h' g1 g2 g3 hcc
  refine aApp_by (ys := tmC r.bo[k].ar) (by simp [src]) (by decide) (by decide) (by decide) (LAt.full.app (by rw [tmC_len]; simp; omega) fun lt σ3 hw hs => ?_)
  have hno : ∀ x, ¬ Own (.fsl 4 [r.bo[k].by'.cs, r.bo[k].at'.cs]) x := fun x ⟨n, c, e⟩ => by cases e
  have g4 := g1.keep fun x o hx => (hs x o hx (hno x)).1
  clear h' g3 hs hno hcc
  have hw : LAt 4 σ3 lt (tmC (r.bo[k].by' :: r.bo[k].at' :: r.bo[k].ar)) := hw
  obtain ⟨ts, hts⟩ : ∃ ts, ts = r.bo[k].by' :: r.bo[k].at' :: r.bo[k].ar := ⟨_, rfl⟩
  have htl : ts.length ≤ 1000002 := by subst hts; simp; omega
  rw [← hts] at hw
  obtain ⟨δ, d1, d2, d3⟩ := g4.base
  have hw0 : LAt 4 δ lt (tmC ts) := hw.keep fun x o hx ho => d3 x o hx (fun a e => by subst e; exact hw.not_own hx ho) (fun es f c e => by
    obtain ⟨c', hc'⟩ := hw.own_rows ho
    rw [hx] at hc'
    rw [e] at hc'
    cases hc')
  simp only [go_sem, r_block, hw.len]
  refine ⟨fun m fr σ' => ∃ i : Nat, m = ts.length - i ∧ i ≤ ts.length ∧ PO δ σ' o v (nats (out ++ [k])) (vs ++ (ts.take i).map Tm.v) ∧ fr 3 = ptr v ∧ fr 24 = lt ∧ fr 25 = int ts.length ∧ fr 26 = int i, ⟨_, 0, rfl, by omega, by simpa using d1, rfl, rfl, rfl, rfl⟩, ?_⟩
  rintro m fr σ4 ⟨i, rfl, h1, h, f3, f24, f25, f26⟩
  simp only [go_sem, f24, f25, f26]
  refine aIf_by (fun hlt => ?_) (fun hlt => ?_)
  · have hi : i < ts.length := by omega
    have hw2 : LAt 4 σ4 lt (tmC ts) := hw0.keep fun x o hx _ => h.sub x o hx
    simp only [go_sem, r_block, f24, f26]
    refine hw2.elem (by omega) (by rw [tmC_len]; omega) fun p hp => ?_
    simp only [go_sem, r_block]
    refine hp.load (by omega) (by rw [Int.toNat_natCast, tmC_get hi]; exact Nat.le_refl 4) ?_
    simp only [go_sem, tmC_get hi]
    refine aNew_intro fun d hd hdn => ?_
    have h := h.new (ob := .cells ts[i].cs) hd
    obtain ⟨lw, c1, c2, c3⟩ := h.var
    simp only [go_sem, r_block, set_same, f3, c1, c2.one, c2.cells]
    have hvl : ((vs ++ (ts.take i).map Tm.v).length : Nat) ≤ 2000002 := by simp; omega
    refine aApp_by (ys := [[str ts[i].v]]) (by simp [src]) (by decide) (by decide) (by decide) (c2.app (by rw [stC_len]; simp only [List.length_cons, List.length_nil]; omega) fun lw' σ5 hl hs => ?_)
    have e : vs ++ (ts.take (i + 1)).map Tm.v = (vs ++ (ts.take i).map Tm.v) ++ [ts[i].v] := by
      rw [List.take_add_one, List.getElem?_eq_getElem hi, List.map_append, ← List.append_assoc]
      rfl
    have e2 : stC (vs ++ (ts.take i).map Tm.v) ++ [[str ts[i].v]] = stC (vs ++ (ts.take (i + 1)).map Tm.v) := by rw [e]; simp [stC]
    rw [e2] at hl
    obtain ⟨q1, q2⟩ := c3 σ5 lw' _ hl hs
    simp only [go_sem, r_block, f3, q1, hl.one, hl.cells, f26, f25, f24, next64 (show i < 9223372036854775807 by omega)]
    exact ⟨ts.length - (i + 1), by omega, i + 1, rfl, by omega, q2, rfl⟩
  · simp only [go_sem, r_block]
    rw [List.take_of_length_le (by omega)] at h
    refine aRet_as (r := .tup []) rfl ?_
    have e : vs ++ ts.map Tm.v = ofLi r.bo[k] vs := by rw [hts]; rfl
    rw [← e]
    exact h.weak fun x p hx => d2 x p (g2 x p hx)
end
end Go.Proofs.YthdfpankebjleaaGreat

/-
  The order in which literals are looked for, by itself: each literal comes once.
  Conditions: none.
-/
namespace Go.Proofs.YthdfpankebjleaaGreat
open Go Go.Av

/-- Among the first ones: the first one of those that are not out of which most is known. -/
def bst (bo : List Li) (out : List Nat) (vs : List ByteArray) : Nat → Int × Int
  | 0 => (-1, -1)
  | k + 1 => if k ∉ out ∧ (bst bo out vs k).2 < (knL (bo.getD k .zero) vs : Int) then ((k : Int), (knL (bo.getD k .zero) vs : Int)) else bst bo out vs k
/-- One by one, f times. -/
def ordN (bo : List Li) : Nat → List Nat → List ByteArray → List Nat
  | 0, out, _ => out
  | f + 1, out, vs => ordN bo f (out ++ [(bst bo out vs bo.length).1.toNat]) (ofLi (bo.getD (bst bo out vs bo.length).1.toNat .zero) vs)
def ordR (r : Rl) (first : Int) : List Nat :=
  if 0 ≤ first ∧ first < r.bo.length then ordN r.bo (r.bo.length - 1) [first.toNat] (ofLi (r.bo.getD first.toNat .zero) [r.ho.v]) else ordN r.bo r.bo.length [] [r.ho.v]

theorem bst_ok (bo : List Li) (out : List Nat) (vs : List ByteArray) : ∀ k, ((bst bo out vs k).1 = -1 ∧ (bst bo out vs k).2 = -1 ∧ ∀ j, j < k → j ∈ out) ∨ ∃ b : Nat, (bst bo out vs k).1 = b ∧ b < k ∧ b ∉ out ∧ 0 ≤ (bst bo out vs k).2
  | 0 => .inl ⟨rfl, rfl, fun j h => by omega⟩
  | k + 1 => by
    have ih := bst_ok bo out vs k
    unfold bst
    split
    · rename_i h
      exact .inr ⟨k, rfl, by omega, h.1, by show (0 : Int) ≤ ((knL _ _ : Nat) : Int); omega⟩
    · rename_i h
      rcases ih with ⟨h1, h2, h3⟩ | ⟨b, h1, h2, h3, h4⟩
      · refine .inl ⟨h1, h2, fun j hj => ?_⟩
        by_cases e : j = k
        · subst e
          exact Classical.byContradiction fun hn => h ⟨hn, by rw [h2]; omega⟩
        · exact h3 j (by omega)
      · exact .inr ⟨b, h1, by omega, h3, h4⟩
/-- Some numbers below n, each once. -/
def Perm (n : Nat) (l : List Nat) : Prop := l.Nodup ∧ ∀ k ∈ l, k < n
theorem perm_len : ∀ (n : Nat) (l : List Nat), Perm n l → l.length ≤ n
  | 0, l, h => by
    cases l with
    | nil => simp
    | cons a l => have := h.2 a (by simp); omega
  | n + 1, l, h => by
    have hp : Perm n (l.filter (· ≠ n)) := ⟨h.1.filter _, fun k hk => by
      have hk := List.mem_filter.1 hk
      have := h.2 k hk.1
      have : k ≠ n := by simpa using hk.2
      omega⟩
    have ih := perm_len n _ hp
    have := count_one h.1
    have hl : l.length ≤ (l.filter (· ≠ n)).length + 1 := this n
    omega
where
  count_one : ∀ {l : List Nat}, l.Nodup → ∀ n, l.length ≤ (l.filter (· ≠ n)).length + 1
  | [], _, n => by simp
  | a :: l, h, n => by
    have hh := List.nodup_cons.1 h
    by_cases e : a = n
    · subst e
      have : l.filter (· ≠ a) = l := List.filter_eq_self.2 fun x hx => by
        have : x ≠ a := fun e => hh.1 (e ▸ hx)
        simpa using this
      simp only [List.filter_cons, ne_eq, not_true_eq_false, decide_false, Bool.false_eq_true, if_false, List.length_cons]
      simp only [ne_eq] at this
      rw [this]
      exact Nat.le_refl _
    · have := count_one hh.2 n
      simp only [List.filter_cons, ne_eq, e, not_false_eq_true, decide_true, if_true, List.length_cons] at *
      omega
/-- One is left. -/
theorem perm_left {n : Nat} {l : List Nat} (h : Perm n l) (hl : l.length < n) : ∃ j, j < n ∧ j ∉ l := Classical.byContradiction fun hn => by
  have hp : Perm l.length (List.range n) → False := fun h => by have := perm_len _ _ h; simp at this; omega
  have hs : ∀ j, j < n → j ∈ l := fun j hj => Classical.byContradiction fun hm => hn ⟨j, hj, hm⟩
  have := (List.nodup_range (n := n)).length_le_of_subset (l₂ := l) (fun j hj => hs j (List.mem_range.1 hj))
  simp at this
  omega
theorem perm_best {bo : List Li} {out : List Nat} {vs : List ByteArray} (h : Perm bo.length out) (hl : out.length < bo.length) :
    ∃ b : Nat, (bst bo out vs bo.length).1 = b ∧ b < bo.length ∧ b ∉ out ∧ Perm bo.length (out ++ [b]) := by
  rcases bst_ok bo out vs bo.length with ⟨h1, h2, h3⟩ | ⟨b, h1, h2, h3, h4⟩
  · obtain ⟨j, hj, hn⟩ := perm_left h hl
    exact absurd (h3 j hj) hn
  · refine ⟨b, h1, h2, h3, ?_, fun k hk => ?_⟩
    · rw [List.nodup_append]
      exact ⟨h.1, by simp, fun a ha c hc => by simp at hc; subst hc; exact fun e => h3 (e ▸ ha)⟩
    · rcases List.mem_append.1 hk with hk | hk
      · exact h.2 k hk
      · simp at hk; omega
theorem ordN_ok {bo : List Li} : ∀ (f : Nat) (out : List Nat) (vs : List ByteArray), f = bo.length - out.length → Perm bo.length out → Perm bo.length (ordN bo f out vs) ∧ (ordN bo f out vs).length = bo.length ∧ ∀ i (h : i < out.length), (ordN bo f out vs)[i]? = some out[i]
  | 0, out, vs, hf, h => by
    have := perm_len _ _ h
    exact ⟨h, by unfold ordN; omega, fun i h => by unfold ordN; simp [h]⟩
  | f + 1, out, vs, hf, h => by
    obtain ⟨b, h1, h2, h3, h4⟩ := perm_best (vs := vs) h (by omega)
    have ih := ordN_ok f (out ++ [b]) (ofLi (bo.getD b .zero) vs) (by simp; omega) h4
    unfold ordN
    rw [h1]
    refine ⟨ih.1, ih.2.1, fun i hi => ?_⟩
    rw [show ((b : Nat) : Int).toNat = b from rfl, ih.2.2 i (by simp; omega)]
    rw [List.getElem_append_left hi]
theorem ordR_ok (r : Rl) (first : Int) : Perm r.bo.length (ordR r first) ∧ (ordR r first).length = r.bo.length ∧ (0 ≤ first ∧ first < r.bo.length → (ordR r first)[0]? = some first.toNat) := by
  unfold ordR
  split
  · rename_i h
    have := ordN_ok (bo := r.bo) (r.bo.length - 1) [first.toNat] (ofLi (r.bo.getD first.toNat .zero) [r.ho.v]) rfl ⟨by simp, fun k hk => by simp at hk; omega⟩
    exact ⟨this.1, this.2.1, fun _ => this.2.2 0 (by simp)⟩
  · rename_i h
    have := ordN_ok (bo := r.bo) r.bo.length [] [r.ho.v] rfl ⟨by simp, fun k hk => by cases hk⟩
    exact ⟨this.1, this.2.1, fun e => absurd e h⟩
/-- Not too much. -/
def Rl.Ok (r : Rl) : Prop := r.bo.length ≤ 300 ∧ ∀ l ∈ r.bo, l.ar.length ≤ 300
theorem ofLi_len (l : Li) (vs : List ByteArray) : (ofLi l vs).length = vs.length + 2 + l.ar.length := by
  simp [ofLi]; omega
end Go.Proofs.YthdfpankebjleaaGreat

/-
  The document's order: its walk.
  Conditions: none.
-/
namespace Go.Proofs.YthdfpankebjleaaGreat
open Go Go.Av

/-- The numbers that are out, and the variables that are known, in two slices. -/
def RO (β σ : St) (lo lw : AV) (ou : List Nat) (vs : List ByteArray) : Prop :=
  LAt 1 σ lo (inC (nats ou)) ∧ LAt 1 σ lw (stC vs) ∧ (∀ x, Own lo x → ¬ Own lw x) ∧ ∀ x o, β x = some o → σ x = some o ∧ ¬ Own lo x ∧ ¬ Own lw x
section
variable {β σ σ1 : St} {lo lw lo' lw' : AV} {ou ou' : List Nat} {vs vs' : List ByteArray}
theorem RO.num (h : RO β σ lo lw ou vs) (hl : LAt 1 σ1 lo' (inC (nats ou'))) (hs : ∀ x p, σ x = some p → ¬ Own lo x → σ1 x = some p ∧ ¬ Own lo' x) : RO β σ1 lo' lw ou' vs := by
  obtain ⟨h1, h2, h3, h4⟩ := h
  refine ⟨hl, h2.keep fun x o hx ho => (hs x o hx fun e => h3 x e ho).1, fun x ho hw => ?_, fun x o hx => ?_⟩
  · obtain ⟨c, hc⟩ := h2.own_rows hw
    exact (hs x _ hc fun e => h3 x e hw).2 ho
  · obtain ⟨k1, k2, k3⟩ := h4 x o hx
    obtain ⟨q1, q2⟩ := hs x o k1 k2
    exact ⟨q1, q2, k3⟩
theorem RO.var (h : RO β σ lo lw ou vs) (hl : LAt 1 σ1 lw' (stC vs')) (hs : ∀ x p, σ x = some p → ¬ Own lw x → σ1 x = some p ∧ ¬ Own lw' x) : RO β σ1 lo lw' ou vs' := by
  obtain ⟨h1, h2, h3, h4⟩ := h
  refine ⟨h1.keep fun x o hx ho => (hs x o hx (h3 x ho)).1, hl, fun x ho hw => ?_, fun x o hx => ?_⟩
  · obtain ⟨c, hc⟩ := h1.own_rows ho
    exact (hs x _ hc (h3 x ho)).2 hw
  · obtain ⟨k1, k2, k3⟩ := h4 x o hx
    obtain ⟨q1, q2⟩ := hs x o k1 k3
    exact ⟨q1, k2, q2⟩
end
/-- On the way to the order. -/
def LO (r : Rl) (first : Int) (ou : List Nat) (vs : List ByteArray) : Prop :=
  Perm r.bo.length ou ∧ vs.length ≤ 1 + ou.length * 302 ∧ ordN r.bo (r.bo.length - ou.length) ou vs = ordR r first
theorem li_getD {l : List Li} {i : Nat} (h : i < l.length) : l.getD i .zero = l[i] := by simp [List.getD_eq_getElem?_getD, h]
theorem LO.first {r : Rl} {first : Int} (hr : r.Ok) (h0 : 0 ≤ first) (h1 : first.toNat < r.bo.length) : LO r first [first.toNat] (ofLi r.bo[first.toNat] [r.ho.v]) := by
  refine ⟨⟨by simp, fun k hk => by simp at hk; omega⟩, ?_, ?_⟩
  · have := hr.2 _ (List.getElem_mem h1)
    rw [ofLi_len]
    simp; omega
  · unfold ordR
    rw [if_pos ⟨h0, by omega⟩, li_getD h1]
    rfl
theorem LO.start {r : Rl} {first : Int} (h : ¬ (0 ≤ first ∧ first < r.bo.length)) : LO r first [] [r.ho.v] := by
  refine ⟨⟨by simp, fun k hk => by cases hk⟩, by simp, ?_⟩
  unfold ordR
  rw [if_neg h]
  rfl
theorem LO.next {r : Rl} {first : Int} {ou : List Nat} {vs : List ByteArray} (hr : r.Ok) (h : LO r first ou vs) (hl : ou.length < r.bo.length) :
    ∃ (b : Nat) (hb : b < r.bo.length), (bst r.bo ou vs r.bo.length).1 = b ∧ LO r first (ou ++ [b]) (ofLi r.bo[b] vs) := by
  obtain ⟨h1, h2, h3⟩ := h
  obtain ⟨b, e, hb, hn, hp⟩ := perm_best (vs := vs) h1 hl
  refine ⟨b, hb, e, hp, ?_, ?_⟩
  · have := hr.2 _ (List.getElem_mem hb)
    rw [ofLi_len]
    simp; omega
  · obtain ⟨f, hf⟩ : ∃ f, r.bo.length - ou.length = f + 1 := ⟨r.bo.length - ou.length - 1, by omega⟩
    rw [hf] at h3
    unfold ordN at h3
    rw [e, show ((b : Nat) : Int).toNat = b from rfl, li_getD hb] at h3
    rw [← h3]
    congr 1
    simp; omega
theorem LO.done {r : Rl} {first : Int} {ou : List Nat} {vs : List ByteArray} (h : LO r first ou vs) (hl : ¬ ou.length < r.bo.length) : ou = ordR r first := by
  obtain ⟨h1, h2, h3⟩ := h
  rw [← h3, show r.bo.length - ou.length = 0 by omega]
  rfl
theorem LO.len {r : Rl} {first : Int} {ou : List Nat} {vs : List ByteArray} (hr : r.Ok) (h : LO r first ou vs) : ou.length ≤ 300 ∧ vs.length ≤ 90601 := by
  have := perm_len _ _ h.1
  have := hr.1
  have := h.2.1
  omega

end Go.Proofs.YthdfpankebjleaaGreat
