/-
  The tables by which runs of this program are reckoned.
  Conditions: none.
-/
import Derived.Test.YthdfpankebjleaaRows
import Derived.Test.YthdfpankebjleaaAvRunJ
set_option linter.unusedVariables false
set_option maxRecDepth 100000
namespace Go.Proofs.Ythdfpankebjleaa
open Go Go.Av
def te3 : TE := ⟨⟨false, 1, [.int .i64 0], .int .i64⟩, false, false, false, false, false, true, none⟩
theorem teOk3 : TeOk Try.prog 3 te3 := ⟨by kernel_rfl, by kernel_rfl, by kernel_rfl, by kernel_rfl, by kernel_rfl, by kernel_rfl, by kernel_rfl, fun ls h => by cases h⟩
def te5 : TE := ⟨⟨false, 1, [.int .u8 0], .int .u8⟩, false, false, false, false, false, true, none⟩
theorem teOk5 : TeOk Try.prog 5 te5 := ⟨by kernel_rfl, by kernel_rfl, by kernel_rfl, by kernel_rfl, by kernel_rfl, by kernel_rfl, by kernel_rfl, fun ls h => by cases h⟩
def te9 : TE := ⟨⟨false, 1, [.string ⟨#[]⟩], .str⟩, false, false, false, false, false, true, none⟩
theorem teOk9 : TeOk Try.prog 9 te9 := ⟨by kernel_rfl, by kernel_rfl, by kernel_rfl, by kernel_rfl, by kernel_rfl, by kernel_rfl, by kernel_rfl, fun ls h => by cases h⟩
def te20 : TE := ⟨⟨false, 1, [.nilIface], .iface⟩, false, false, false, false, false, false, none⟩
theorem teOk20 : TeOk Try.prog 20 te20 := ⟨by kernel_rfl, by kernel_rfl, by kernel_rfl, by kernel_rfl, by kernel_rfl, by kernel_rfl, by kernel_rfl, fun ls h => by cases h⟩
def te23 : TE := ⟨⟨true, 3, [.bool false, .int .i64 0, .string ⟨#[]⟩], .st [(0, 1, false), (1, 1, false), (2, 1, false)]⟩, false, false, false, false, false, true, (some [.b, .i .i64, .s])⟩
theorem teOk23 : TeOk Try.prog 23 te23 := ⟨by kernel_rfl, by kernel_rfl, by kernel_rfl, by kernel_rfl, by kernel_rfl, by kernel_rfl, by kernel_rfl, fun ls h => by cases h; exact ⟨by kernel_rfl, by kernel_rfl, by kernel_rfl⟩⟩
def te25 : TE := ⟨⟨true, 4, [.string ⟨#[]⟩, .bool false, .int .i64 0, .string ⟨#[]⟩], .st [(0, 1, false), (1, 3, true)]⟩, false, false, false, false, false, true, (some [.s, .b, .i .i64, .s])⟩
theorem teOk25 : TeOk Try.prog 25 te25 := ⟨by kernel_rfl, by kernel_rfl, by kernel_rfl, by kernel_rfl, by kernel_rfl, by kernel_rfl, by kernel_rfl, fun ls h => by cases h; exact ⟨by kernel_rfl, by kernel_rfl, by kernel_rfl⟩⟩
def te26 : TE := ⟨⟨false, 1, [.slice none 0 0], .sl 4 48 [.string ⟨#[]⟩, .bool false, .int .i64 0, .string ⟨#[]⟩] false⟩, true, false, false, false, false, true, none⟩
theorem teOk26 : TeOk Try.prog 26 te26 := ⟨by kernel_rfl, by kernel_rfl, by kernel_rfl, by kernel_rfl, by kernel_rfl, by kernel_rfl, by kernel_rfl, fun ls h => by cases h⟩
def te27 : TE := ⟨⟨false, 1, [.slice none 0 0], .sl 10 136 [.string ⟨#[]⟩, .bool false, .int .i64 0, .string ⟨#[]⟩, .string ⟨#[]⟩, .slice none 0 0, .string ⟨#[]⟩, .bool false, .int .i64 0, .string ⟨#[]⟩] false⟩, true, false, false, false, false, true, none⟩
theorem teOk27 : TeOk Try.prog 27 te27 := ⟨by kernel_rfl, by kernel_rfl, by kernel_rfl, by kernel_rfl, by kernel_rfl, by kernel_rfl, by kernel_rfl, fun ls h => by cases h⟩
def te29 : TE := ⟨⟨true, 11, [.string ⟨#[]⟩, .bool false, .int .i64 0, .string ⟨#[]⟩, .string ⟨#[]⟩, .slice none 0 0, .string ⟨#[]⟩, .bool false, .int .i64 0, .string ⟨#[]⟩, .slice none 0 0], .st [(0, 4, true), (4, 1, false), (5, 1, false), (6, 4, true), (10, 1, false)]⟩, false, false, false, false, false, true, none⟩
theorem teOk29 : TeOk Try.prog 29 te29 := ⟨by kernel_rfl, by kernel_rfl, by kernel_rfl, by kernel_rfl, by kernel_rfl, by kernel_rfl, by kernel_rfl, fun ls h => by cases h⟩
def te31 : TE := ⟨⟨false, 1, [.slice none 0 0], .sl 11 160 [.string ⟨#[]⟩, .bool false, .int .i64 0, .string ⟨#[]⟩, .string ⟨#[]⟩, .slice none 0 0, .string ⟨#[]⟩, .bool false, .int .i64 0, .string ⟨#[]⟩, .slice none 0 0] false⟩, true, false, false, false, false, true, none⟩
theorem teOk31 : TeOk Try.prog 31 te31 := ⟨by kernel_rfl, by kernel_rfl, by kernel_rfl, by kernel_rfl, by kernel_rfl, by kernel_rfl, by kernel_rfl, fun ls h => by cases h⟩
def te34 : TE := ⟨⟨false, 1, [.slice none 0 0], .sl 1 8 [.int .i64 0] false⟩, true, false, false, false, false, true, none⟩
theorem teOk34 : TeOk Try.prog 34 te34 := ⟨by kernel_rfl, by kernel_rfl, by kernel_rfl, by kernel_rfl, by kernel_rfl, by kernel_rfl, by kernel_rfl, fun ls h => by cases h⟩
def te56 : TE := ⟨⟨false, 1, [.slice none 0 0], .sl 1 16 [.string ⟨#[]⟩] false⟩, true, false, false, false, false, true, none⟩
theorem teOk56 : TeOk Try.prog 56 te56 := ⟨by kernel_rfl, by kernel_rfl, by kernel_rfl, by kernel_rfl, by kernel_rfl, by kernel_rfl, by kernel_rfl, fun ls h => by cases h⟩
def te63 : TE := ⟨⟨false, 1, [.int .i64 0], .int .i64⟩, false, false, false, false, false, true, none⟩
theorem teOk63 : TeOk Try.prog 63 te63 := ⟨by kernel_rfl, by kernel_rfl, by kernel_rfl, by kernel_rfl, by kernel_rfl, by kernel_rfl, by kernel_rfl, fun ls h => by cases h⟩
def te71 : TE := ⟨⟨true, 10, [.string ⟨#[]⟩, .bool false, .int .i64 0, .string ⟨#[]⟩, .string ⟨#[]⟩, .slice none 0 0, .string ⟨#[]⟩, .bool false, .int .i64 0, .string ⟨#[]⟩], .st [(0, 4, true), (4, 1, false), (5, 1, false), (6, 4, true)]⟩, false, false, false, false, false, true, none⟩
theorem teOk71 : TeOk Try.prog 71 te71 := ⟨by kernel_rfl, by kernel_rfl, by kernel_rfl, by kernel_rfl, by kernel_rfl, by kernel_rfl, by kernel_rfl, fun ls h => by cases h⟩
def te91 : TE := ⟨⟨false, 1, [.slice none 0 0], .sl 4 40 [.int .i64 0, .string ⟨#[]⟩, .int .i64 0, .int .i64 0] false⟩, true, false, false, false, false, true, none⟩
theorem teOk91 : TeOk Try.prog 91 te91 := ⟨by kernel_rfl, by kernel_rfl, by kernel_rfl, by kernel_rfl, by kernel_rfl, by kernel_rfl, by kernel_rfl, fun ls h => by cases h⟩
def te94 : TE := ⟨⟨false, 1, [.pointer none], .ptr 96⟩, false, true, false, false, false, true, none⟩
theorem teOk94 : TeOk Try.prog 94 te94 := ⟨by kernel_rfl, by kernel_rfl, by kernel_rfl, by kernel_rfl, by kernel_rfl, by kernel_rfl, by kernel_rfl, fun ls h => by cases h⟩
def te96 : TE := ⟨⟨true, 2, [.slice none 0 0, .int .i64 0], .st [(0, 1, false), (1, 1, false)]⟩, false, false, false, false, false, true, none⟩
theorem teOk96 : TeOk Try.prog 96 te96 := ⟨by kernel_rfl, by kernel_rfl, by kernel_rfl, by kernel_rfl, by kernel_rfl, by kernel_rfl, by kernel_rfl, fun ls h => by cases h⟩
def te98 : TE := ⟨⟨true, 2, [.int .i64 0, .int .i64 0], .st [(0, 1, false), (1, 1, false)]⟩, false, false, false, false, false, true, (some [.i .i64, .i .i64])⟩
theorem teOk98 : TeOk Try.prog 98 te98 := ⟨by kernel_rfl, by kernel_rfl, by kernel_rfl, by kernel_rfl, by kernel_rfl, by kernel_rfl, by kernel_rfl, fun ls h => by cases h; exact ⟨by kernel_rfl, by kernel_rfl, by kernel_rfl⟩⟩
def te125 : TE := ⟨⟨true, 4, [.int .i64 0, .string ⟨#[]⟩, .int .i64 0, .int .i64 0], .st [(0, 1, false), (1, 1, false), (2, 1, false), (3, 1, false)]⟩, false, false, false, false, false, true, (some [.i .i64, .s, .i .i64, .i .i64])⟩
theorem teOk125 : TeOk Try.prog 125 te125 := ⟨by kernel_rfl, by kernel_rfl, by kernel_rfl, by kernel_rfl, by kernel_rfl, by kernel_rfl, by kernel_rfl, fun ls h => by cases h; exact ⟨by kernel_rfl, by kernel_rfl, by kernel_rfl⟩⟩
def te156 : TE := ⟨⟨false, 1, [.nilFunc], .other⟩, false, false, true, false, false, true, none⟩
theorem teOk156 : TeOk Try.prog 156 te156 := ⟨by kernel_rfl, by kernel_rfl, by kernel_rfl, by kernel_rfl, by kernel_rfl, by kernel_rfl, by kernel_rfl, fun ls h => by cases h⟩
def tyT : Tr TE := (.n (.n (.n (.n (.n (.n .e (.n .e (.n (.n (.n (.l te96) .e) .e) .e))) .e) (.n .e (.n .e (.n (.n (.n (.n (.l te56) .e) .e) .e) .e)))) (.n (.n .e (.n (.n (.n (.n (.n (.l te20) .e) .e) .e) .e) .e)) (.n .e (.n (.n (.n .e (.n (.n (.l te156) .e) .e)) .e) .e)))) (.n (.n (.n (.n .e (.n (.n (.n (.n (.l te34) .e) .e) .e) (.n (.n (.n (.l te98) .e) .e) .e))) .e) (.n .e (.n (.n (.n (.n (.n (.l te26) .e) .e) .e) .e) .e))) (.n .e (.n .e (.n (.n .e (.n (.n (.n (.l te94) .e) .e) .e)) .e))))) (.n (.n (.n .e (.n (.n (.n (.n (.n (.n (.l te9) .e) .e) .e) .e) .e) (.n (.n (.n (.n (.n (.l te25) .e) .e) .e) .e) .e))) (.n (.n (.n (.n (.n (.n (.n (.l te5) .e) .e) .e) .e) .e) .e) (.n .e (.n (.n (.n (.n (.n (.l te29) .e) .e) .e) .e) (.n .e (.n (.n (.n (.l te125) .e) .e) .e)))))) (.n (.n (.n (.n (.n (.n (.n (.n (.l te3) .e) .e) .e) .e) .e) .e) (.n .e (.n (.n (.n (.n (.n (.l te27) .e) .e) .e) (.n (.n (.n (.l te91) .e) .e) .e)) .e))) (.n (.n (.n (.n .e (.n (.n (.n (.l te71) .e) .e) .e)) .e) (.n (.n (.n (.n (.n (.l te23) .e) .e) .e) .e) .e)) (.n .e (.n (.n (.n (.n (.n (.l te31) .e) .e) .e) .e) (.n (.n (.n (.n (.l te63) .e) .e) .e) .e)))))))
theorem tyOk : tyT.All 10 (TeOk Try.prog) := ⟨⟨⟨⟨⟨⟨trivial, ⟨trivial, ⟨⟨⟨teOk96, trivial⟩, trivial⟩, trivial⟩⟩⟩, trivial⟩, ⟨trivial, ⟨trivial, ⟨⟨⟨⟨teOk56, trivial⟩, trivial⟩, trivial⟩, trivial⟩⟩⟩⟩, ⟨⟨trivial, ⟨⟨⟨⟨⟨teOk20, trivial⟩, trivial⟩, trivial⟩, trivial⟩, trivial⟩⟩, ⟨trivial, ⟨⟨⟨trivial, ⟨⟨teOk156, trivial⟩, trivial⟩⟩, trivial⟩, trivial⟩⟩⟩⟩, ⟨⟨⟨⟨trivial, ⟨⟨⟨⟨teOk34, trivial⟩, trivial⟩, trivial⟩, ⟨⟨⟨teOk98, trivial⟩, trivial⟩, trivial⟩⟩⟩, trivial⟩, ⟨trivial, ⟨⟨⟨⟨⟨teOk26, trivial⟩, trivial⟩, trivial⟩, trivial⟩, trivial⟩⟩⟩, ⟨trivial, ⟨trivial, ⟨⟨trivial, ⟨⟨⟨teOk94, trivial⟩, trivial⟩, trivial⟩⟩, trivial⟩⟩⟩⟩⟩, ⟨⟨⟨trivial, ⟨⟨⟨⟨⟨⟨teOk9, trivial⟩, trivial⟩, trivial⟩, trivial⟩, trivial⟩, ⟨⟨⟨⟨⟨teOk25, trivial⟩, trivial⟩, trivial⟩, trivial⟩, trivial⟩⟩⟩, ⟨⟨⟨⟨⟨⟨⟨teOk5, trivial⟩, trivial⟩, trivial⟩, trivial⟩, trivial⟩, trivial⟩, ⟨trivial, ⟨⟨⟨⟨⟨teOk29, trivial⟩, trivial⟩, trivial⟩, trivial⟩, ⟨trivial, ⟨⟨⟨teOk125, trivial⟩, trivial⟩, trivial⟩⟩⟩⟩⟩⟩, ⟨⟨⟨⟨⟨⟨⟨⟨teOk3, trivial⟩, trivial⟩, trivial⟩, trivial⟩, trivial⟩, trivial⟩, ⟨trivial, ⟨⟨⟨⟨⟨teOk27, trivial⟩, trivial⟩, trivial⟩, ⟨⟨⟨teOk91, trivial⟩, trivial⟩, trivial⟩⟩, trivial⟩⟩⟩, ⟨⟨⟨⟨trivial, ⟨⟨⟨teOk71, trivial⟩, trivial⟩, trivial⟩⟩, trivial⟩, ⟨⟨⟨⟨⟨teOk23, trivial⟩, trivial⟩, trivial⟩, trivial⟩, trivial⟩⟩, ⟨trivial, ⟨⟨⟨⟨⟨teOk31, trivial⟩, trivial⟩, trivial⟩, trivial⟩, ⟨⟨⟨⟨teOk63, trivial⟩, trivial⟩, trivial⟩, trivial⟩⟩⟩⟩⟩⟩⟩
noncomputable def fe9 : FE := ⟨Try.f9, []⟩
noncomputable def fe10 : FE := ⟨Try.f10, [(6, [.rd 0 false, .rd 1 false, .rd 2 false, .rd 3 true, .rd 4 false, .rd 5 false, .rd 6 false, .rd 7 true, .rd 8 false])]⟩
noncomputable def fe11 : FE := ⟨Try.f11, []⟩
noncomputable def fe27 : FE := ⟨Try.f27, [(3, [.rd 0 true, .rd 1 true, .ef 2 [0, 1], .ef 3 [1], .ef 4 []]), (9, [.rd 0 true, .rd 1 false, .ef 2 [0], .rd 3 false, .ef 4 [], .ef 5 []])]⟩
noncomputable def fe28 : FE := ⟨Try.f28, []⟩
noncomputable def fe29 : FE := ⟨Try.f29, []⟩
noncomputable def fe44 : FE := ⟨Try.f44, []⟩
noncomputable def fe45 : FE := ⟨Try.f45, [(3, [.rd 0 false, .rd 1 true, .rd 2 false, .rd 3 true, .ef 4 [1, 3], .ef 5 [3], .ef 6 []])]⟩
noncomputable def fe46 : FE := ⟨Try.f46, []⟩
noncomputable def fe47 : FE := ⟨Try.f47, []⟩
noncomputable def fe48 : FE := ⟨Try.f48, [(10, [.rd 0 false, .rd 1 true, .rd 2 false, .ef 3 [1], .rd 4 false, .ef 5 [], .rd 6 false, .ef 7 []])]⟩
noncomputable def fe49 : FE := ⟨Try.f49, []⟩
noncomputable def fe68 : FE := ⟨Try.f68, []⟩
noncomputable def fe69 : FE := ⟨Try.f69, [(7, [.rd 0 false, .rd 1 false, .rd 2 false, .rd 3 true, .rd 4 false, .ef 5 [3], .rd 6 false, .ef 7 []]), (10, [.rd 0 false, .rd 1 false, .rd 2 false, .rd 3 true, .rd 4 false, .ef 5 [3], .rd 6 false, .ef 7 []]), (24, [.rd 0 false, .rd 1 false, .rd 2 false, .rd 3 true, .rd 4 false, .ef 5 [3], .rd 6 false, .ef 7 []]), (26, [.rd 0 false, .rd 1 false, .rd 2 false, .rd 3 true, .rd 4 false, .ef 5 [3], .rd 6 false, .ef 7 []])]⟩
noncomputable def fe70 : FE := ⟨Try.f70, []⟩
noncomputable def fe71 : FE := ⟨Try.f71, []⟩
noncomputable def fe72 : FE := ⟨Try.f72, []⟩
noncomputable def fe73 : FE := ⟨Try.f73, []⟩
noncomputable def fe74 : FE := ⟨Try.f74, []⟩
noncomputable def fe75 : FE := ⟨Try.f75, []⟩
noncomputable def fe76 : FE := ⟨Try.f76, []⟩
noncomputable def fe77 : FE := ⟨Try.f77, []⟩
noncomputable def fe78 : FE := ⟨Try.f78, []⟩
noncomputable def fe101 : FE := ⟨Try.f101, []⟩
noncomputable def fe102 : FE := ⟨Try.f102, []⟩
noncomputable def fe103 : FE := ⟨Try.f103, []⟩
noncomputable def fe104 : FE := ⟨Try.f104, []⟩
noncomputable def fe105 : FE := ⟨Try.f105, []⟩
noncomputable def fe106 : FE := ⟨Try.f106, []⟩
noncomputable def fe107 : FE := ⟨Try.f107, []⟩
noncomputable def fe108 : FE := ⟨Try.f108, []⟩
noncomputable def fe109 : FE := ⟨Try.f109, []⟩
noncomputable def fe110 : FE := ⟨Try.f110, []⟩
noncomputable def fe136 : FE := ⟨Try.f136, []⟩

theorem feOk9 : FeOk Try.prog 9 fe9 := ⟨Try.func9, by decide, by kernel_rfl⟩
theorem feOk10 : FeOk Try.prog 10 fe10 := ⟨Try.func10, by decide, by kernel_rfl⟩
theorem feOk11 : FeOk Try.prog 11 fe11 := ⟨Try.func11, by decide, by kernel_rfl⟩
theorem feOk27 : FeOk Try.prog 27 fe27 := ⟨Try.func27, by decide, by kernel_rfl⟩
theorem feOk28 : FeOk Try.prog 28 fe28 := ⟨Try.func28, by decide, by kernel_rfl⟩
theorem feOk29 : FeOk Try.prog 29 fe29 := ⟨Try.func29, by decide, by kernel_rfl⟩
theorem feOk44 : FeOk Try.prog 44 fe44 := ⟨Try.func44, by decide, by kernel_rfl⟩
theorem feOk45 : FeOk Try.prog 45 fe45 := ⟨Try.func45, by decide, by kernel_rfl⟩
theorem feOk46 : FeOk Try.prog 46 fe46 := ⟨Try.func46, by decide, by kernel_rfl⟩
theorem feOk47 : FeOk Try.prog 47 fe47 := ⟨Try.func47, by decide, by kernel_rfl⟩
theorem feOk48 : FeOk Try.prog 48 fe48 := ⟨Try.func48, by decide, by kernel_rfl⟩
theorem feOk49 : FeOk Try.prog 49 fe49 := ⟨Try.func49, by decide, by kernel_rfl⟩
theorem feOk68 : FeOk Try.prog 68 fe68 := ⟨Try.func68, by decide, by kernel_rfl⟩
theorem feOk69 : FeOk Try.prog 69 fe69 := ⟨Try.func69, by decide, by kernel_rfl⟩
theorem feOk70 : FeOk Try.prog 70 fe70 := ⟨Try.func70, by decide, by kernel_rfl⟩
theorem feOk71 : FeOk Try.prog 71 fe71 := ⟨Try.func71, by decide, by kernel_rfl⟩
theorem feOk72 : FeOk Try.prog 72 fe72 := ⟨Try.func72, by decide, by kernel_rfl⟩
theorem feOk73 : FeOk Try.prog 73 fe73 := ⟨Try.func73, by decide, by kernel_rfl⟩
theorem feOk74 : FeOk Try.prog 74 fe74 := ⟨Try.func74, by decide, by kernel_rfl⟩
theorem feOk75 : FeOk Try.prog 75 fe75 := ⟨Try.func75, by decide, by kernel_rfl⟩
theorem feOk76 : FeOk Try.prog 76 fe76 := ⟨Try.func76, by decide, by kernel_rfl⟩
theorem feOk77 : FeOk Try.prog 77 fe77 := ⟨Try.func77, by decide, by kernel_rfl⟩
theorem feOk78 : FeOk Try.prog 78 fe78 := ⟨Try.func78, by decide, by kernel_rfl⟩
theorem feOk101 : FeOk Try.prog 101 fe101 := ⟨Try.func101, by decide, by kernel_rfl⟩
theorem feOk102 : FeOk Try.prog 102 fe102 := ⟨Try.func102, by decide, by kernel_rfl⟩
theorem feOk103 : FeOk Try.prog 103 fe103 := ⟨Try.func103, by decide, by kernel_rfl⟩
theorem feOk104 : FeOk Try.prog 104 fe104 := ⟨Try.func104, by decide, by kernel_rfl⟩
theorem feOk105 : FeOk Try.prog 105 fe105 := ⟨Try.func105, by decide, by kernel_rfl⟩
theorem feOk106 : FeOk Try.prog 106 fe106 := ⟨Try.func106, by decide, by kernel_rfl⟩
theorem feOk107 : FeOk Try.prog 107 fe107 := ⟨Try.func107, by decide, by kernel_rfl⟩
theorem feOk108 : FeOk Try.prog 108 fe108 := ⟨Try.func108, by decide, by kernel_rfl⟩
theorem feOk109 : FeOk Try.prog 109 fe109 := ⟨Try.func109, by decide, by kernel_rfl⟩
theorem feOk110 : FeOk Try.prog 110 fe110 := ⟨Try.func110, by decide, by kernel_rfl⟩
theorem feOk136 : FeOk Try.prog 136 fe136 := ⟨Try.func136, by decide, by kernel_rfl⟩
noncomputable def ftT : Tr FE := (.n (.n (.n (.n (.n .e (.n .e (.n (.n (.n (.n (.l fe48) .e) .e) .e) .e))) (.n (.n (.n (.n .e (.n (.n (.l fe136) .e) .e)) (.n (.n (.n (.l fe72) .e) .e) .e)) (.n .e (.n (.n (.n (.l fe104) .e) .e) .e))) .e)) (.n (.n (.n (.n .e (.n (.n (.n (.l fe68) .e) .e) .e)) .e) .e) (.n (.n (.n .e (.n (.n (.n (.l fe76) .e) .e) .e)) (.n (.n (.n (.n (.l fe44) .e) .e) .e) (.n (.n (.n (.l fe108) .e) .e) .e))) (.n (.n (.n (.n (.n (.l fe28) .e) .e) .e) .e) .e)))) (.n (.n .e (.n (.n (.n (.n (.n (.n (.l fe10) .e) .e) .e) (.n (.n (.n (.l fe74) .e) .e) .e)) (.n .e (.n (.n (.n (.l fe106) .e) .e) .e))) .e)) (.n (.n (.n (.n .e (.n (.n (.n (.l fe70) .e) .e) .e)) (.n .e (.n (.n (.n (.l fe102) .e) .e) .e))) .e) (.n (.n (.n .e (.n (.n (.n (.l fe78) .e) .e) .e)) (.n (.n (.n (.n (.l fe46) .e) .e) .e) (.n (.n (.n (.l fe110) .e) .e) .e))) .e)))) (.n (.n (.n (.n .e (.n .e (.n (.n (.n (.n (.l fe49) .e) .e) .e) .e))) (.n (.n (.n (.n (.n (.n (.l fe9) .e) .e) .e) (.n (.n (.n (.l fe73) .e) .e) .e)) (.n .e (.n (.n (.n (.l fe105) .e) .e) .e))) .e)) (.n (.n (.n (.n .e (.n (.n (.n (.l fe69) .e) .e) .e)) (.n .e (.n (.n (.n (.l fe101) .e) .e) .e))) .e) (.n (.n (.n .e (.n (.n (.n (.l fe77) .e) .e) .e)) (.n (.n (.n (.n (.l fe45) .e) .e) .e) (.n (.n (.n (.l fe109) .e) .e) .e))) (.n (.n (.n (.n (.n (.l fe29) .e) .e) .e) .e) .e)))) (.n (.n .e (.n (.n (.n (.n (.n (.n (.l fe11) .e) .e) .e) (.n (.n (.n (.l fe75) .e) .e) .e)) (.n .e (.n (.n (.n (.l fe107) .e) .e) .e))) (.n (.n (.n (.n (.n (.l fe27) .e) .e) .e) .e) .e))) (.n (.n (.n (.n .e (.n (.n (.n (.l fe71) .e) .e) .e)) (.n .e (.n (.n (.n (.l fe103) .e) .e) .e))) .e) (.n (.n .e (.n (.n (.n (.n (.l fe47) .e) .e) .e) .e)) .e)))))
theorem ftOk : ftT.All 10 (FeOk Try.prog) := ⟨⟨⟨⟨⟨trivial, ⟨trivial, ⟨⟨⟨⟨feOk48, trivial⟩, trivial⟩, trivial⟩, trivial⟩⟩⟩, ⟨⟨⟨⟨trivial, ⟨⟨feOk136, trivial⟩, trivial⟩⟩, ⟨⟨⟨feOk72, trivial⟩, trivial⟩, trivial⟩⟩, ⟨trivial, ⟨⟨⟨feOk104, trivial⟩, trivial⟩, trivial⟩⟩⟩, trivial⟩⟩, ⟨⟨⟨⟨trivial, ⟨⟨⟨feOk68, trivial⟩, trivial⟩, trivial⟩⟩, trivial⟩, trivial⟩, ⟨⟨⟨trivial, ⟨⟨⟨feOk76, trivial⟩, trivial⟩, trivial⟩⟩, ⟨⟨⟨⟨feOk44, trivial⟩, trivial⟩, trivial⟩, ⟨⟨⟨feOk108, trivial⟩, trivial⟩, trivial⟩⟩⟩, ⟨⟨⟨⟨⟨feOk28, trivial⟩, trivial⟩, trivial⟩, trivial⟩, trivial⟩⟩⟩⟩, ⟨⟨trivial, ⟨⟨⟨⟨⟨⟨feOk10, trivial⟩, trivial⟩, trivial⟩, ⟨⟨⟨feOk74, trivial⟩, trivial⟩, trivial⟩⟩, ⟨trivial, ⟨⟨⟨feOk106, trivial⟩, trivial⟩, trivial⟩⟩⟩, trivial⟩⟩, ⟨⟨⟨⟨trivial, ⟨⟨⟨feOk70, trivial⟩, trivial⟩, trivial⟩⟩, ⟨trivial, ⟨⟨⟨feOk102, trivial⟩, trivial⟩, trivial⟩⟩⟩, trivial⟩, ⟨⟨⟨trivial, ⟨⟨⟨feOk78, trivial⟩, trivial⟩, trivial⟩⟩, ⟨⟨⟨⟨feOk46, trivial⟩, trivial⟩, trivial⟩, ⟨⟨⟨feOk110, trivial⟩, trivial⟩, trivial⟩⟩⟩, trivial⟩⟩⟩⟩, ⟨⟨⟨⟨trivial, ⟨trivial, ⟨⟨⟨⟨feOk49, trivial⟩, trivial⟩, trivial⟩, trivial⟩⟩⟩, ⟨⟨⟨⟨⟨⟨feOk9, trivial⟩, trivial⟩, trivial⟩, ⟨⟨⟨feOk73, trivial⟩, trivial⟩, trivial⟩⟩, ⟨trivial, ⟨⟨⟨feOk105, trivial⟩, trivial⟩, trivial⟩⟩⟩, trivial⟩⟩, ⟨⟨⟨⟨trivial, ⟨⟨⟨feOk69, trivial⟩, trivial⟩, trivial⟩⟩, ⟨trivial, ⟨⟨⟨feOk101, trivial⟩, trivial⟩, trivial⟩⟩⟩, trivial⟩, ⟨⟨⟨trivial, ⟨⟨⟨feOk77, trivial⟩, trivial⟩, trivial⟩⟩, ⟨⟨⟨⟨feOk45, trivial⟩, trivial⟩, trivial⟩, ⟨⟨⟨feOk109, trivial⟩, trivial⟩, trivial⟩⟩⟩, ⟨⟨⟨⟨⟨feOk29, trivial⟩, trivial⟩, trivial⟩, trivial⟩, trivial⟩⟩⟩⟩, ⟨⟨trivial, ⟨⟨⟨⟨⟨⟨feOk11, trivial⟩, trivial⟩, trivial⟩, ⟨⟨⟨feOk75, trivial⟩, trivial⟩, trivial⟩⟩, ⟨trivial, ⟨⟨⟨feOk107, trivial⟩, trivial⟩, trivial⟩⟩⟩, ⟨⟨⟨⟨⟨feOk27, trivial⟩, trivial⟩, trivial⟩, trivial⟩, trivial⟩⟩⟩, ⟨⟨⟨⟨trivial, ⟨⟨⟨feOk71, trivial⟩, trivial⟩, trivial⟩⟩, ⟨trivial, ⟨⟨⟨feOk103, trivial⟩, trivial⟩, trivial⟩⟩⟩, trivial⟩, ⟨⟨trivial, ⟨⟨⟨⟨feOk47, trivial⟩, trivial⟩, trivial⟩, trivial⟩⟩, trivial⟩⟩⟩⟩⟩
end Go.Proofs.Ythdfpankebjleaa
