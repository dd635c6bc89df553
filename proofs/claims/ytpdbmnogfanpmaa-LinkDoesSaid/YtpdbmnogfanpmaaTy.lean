/- The types of this translation, as the logic asks of them. Conditions: none. -/
import Derived.Test.YtpdbmnogfanpmaaRows
import Derived.Test.YtpdbmnogfanpmaaAvSimp
namespace Go.Proofs.Ytpdbmnogfanpmaa
open Go Go.Av
def zl0 : List Value := [.int .u8 0, .int .u8 0, .int .u8 0, .int .u8 0, .int .u8 0, .int .u8 0, .int .u8 0, .int .u8 0, .int .u8 0, .int .u8 0, .int .u8 0, .int .u8 0, .int .u8 0, .int .u8 0, .int .u8 0, .int .u8 0, .int .u8 0, .int .u8 0, .int .u8 0, .int .u8 0, .int .u8 0, .int .u8 0, .int .u8 0, .int .u8 0, .int .u8 0, .int .u8 0, .int .u8 0, .int .u8 0, .int .u8 0, .int .u8 0, .int .u8 0, .int .u8 0]
@[go_sem] theorem zl0_len : zl0.length = 32 := _root_.id rfl
@[go_sem] theorem zl0_one : zl0.all Value.oneCell' = true := _root_.id rfl
def zl1 : List Value := [.int .i64 0, .int .i64 0, .string ⟨#[]⟩, .string ⟨#[]⟩, .string ⟨#[]⟩, .slice none 0 0, .int .u8 0, .int .u8 0, .int .u8 0, .int .u8 0, .int .u8 0, .int .u8 0, .int .u8 0, .int .u8 0, .int .u8 0, .int .u8 0, .int .u8 0, .int .u8 0, .int .u8 0, .int .u8 0, .int .u8 0, .int .u8 0, .int .u8 0, .int .u8 0, .int .u8 0, .int .u8 0, .int .u8 0, .int .u8 0, .int .u8 0, .int .u8 0, .int .u8 0, .int .u8 0, .int .u8 0, .int .u8 0, .int .u8 0, .int .u8 0, .int .u8 0, .int .u8 0]
@[go_sem] theorem zl1_len : zl1.length = 38 := _root_.id rfl
@[go_sem] theorem zl1_one : zl1.all Value.oneCell' = true := _root_.id rfl
def zl2 : List Value := [.int .i64 0, .int .i64 0, .int .i64 0, .int .i64 0, .string ⟨#[]⟩, .string ⟨#[]⟩, .string ⟨#[]⟩, .slice none 0 0, .int .u8 0, .int .u8 0, .int .u8 0, .int .u8 0, .int .u8 0, .int .u8 0, .int .u8 0, .int .u8 0, .int .u8 0, .int .u8 0, .int .u8 0, .int .u8 0, .int .u8 0, .int .u8 0, .int .u8 0, .int .u8 0, .int .u8 0, .int .u8 0, .int .u8 0, .int .u8 0, .int .u8 0, .int .u8 0, .int .u8 0, .int .u8 0, .int .u8 0, .int .u8 0, .int .u8 0, .int .u8 0, .int .u8 0, .int .u8 0, .int .u8 0, .int .u8 0]
@[go_sem] theorem zl2_len : zl2.length = 40 := _root_.id rfl
@[go_sem] theorem zl2_one : zl2.all Value.oneCell' = true := _root_.id rfl
def zl3 : List Value := [.int .i64 0, .int .i64 0, .int .i64 0, .int .i64 0, .int .i64 0, .string ⟨#[]⟩, .string ⟨#[]⟩, .string ⟨#[]⟩, .slice none 0 0, .int .u8 0, .int .u8 0, .int .u8 0, .int .u8 0, .int .u8 0, .int .u8 0, .int .u8 0, .int .u8 0, .int .u8 0, .int .u8 0, .int .u8 0, .int .u8 0, .int .u8 0, .int .u8 0, .int .u8 0, .int .u8 0, .int .u8 0, .int .u8 0, .int .u8 0, .int .u8 0, .int .u8 0, .int .u8 0, .int .u8 0, .int .u8 0, .int .u8 0, .int .u8 0, .int .u8 0, .int .u8 0, .int .u8 0, .int .u8 0, .int .u8 0, .int .u8 0]
@[go_sem] theorem zl3_len : zl3.length = 41 := _root_.id rfl
@[go_sem] theorem zl3_one : zl3.all Value.oneCell' = true := _root_.id rfl
def zl4 : List Value := [.int .i64 0, .int .i64 0, .int .i64 0, .string ⟨#[]⟩, .string ⟨#[]⟩, .string ⟨#[]⟩, .slice none 0 0, .int .u8 0, .int .u8 0, .int .u8 0, .int .u8 0, .int .u8 0, .int .u8 0, .int .u8 0, .int .u8 0, .int .u8 0, .int .u8 0, .int .u8 0, .int .u8 0, .int .u8 0, .int .u8 0, .int .u8 0, .int .u8 0, .int .u8 0, .int .u8 0, .int .u8 0, .int .u8 0, .int .u8 0, .int .u8 0, .int .u8 0, .int .u8 0, .int .u8 0, .int .u8 0, .int .u8 0, .int .u8 0, .int .u8 0, .int .u8 0, .int .u8 0, .int .u8 0]
@[go_sem] theorem zl4_len : zl4.length = 39 := _root_.id rfl
@[go_sem] theorem zl4_one : zl4.all Value.oneCell' = true := _root_.id rfl
@[go_sem] theorem tk3 : tk Try.prog 3 = some ⟨false, 1, [.int .i64 0], .int .i64⟩ := _root_.id (by kernel_rfl)
@[go_sem] theorem tk4 : tk Try.prog 4 = some ⟨false, 1, [.bool false], .bool⟩ := _root_.id (by kernel_rfl)
@[go_sem] theorem ib4 : isBool Try.prog 4 = true := _root_.id (by kernel_rfl)
@[go_sem] theorem tk9 : tk Try.prog 9 = some ⟨false, 1, [.string ⟨#[]⟩], .str⟩ := _root_.id (by kernel_rfl)
@[go_sem] theorem tk20 : tk Try.prog 20 = some ⟨false, 1, [.nilIface], .iface⟩ := _root_.id (by kernel_rfl)
@[go_sem] theorem tk22 : tk Try.prog 22 = some ⟨false, 1, [.pointer none], .ptr 70⟩ := _root_.id (by kernel_rfl)
@[go_sem] theorem ip22 : isPtr Try.prog 22 = true := _root_.id (by kernel_rfl)
@[go_sem] theorem tk24 : tk Try.prog 24 = some ⟨false, 1, [.int .i64 0], .int .i64⟩ := _root_.id (by kernel_rfl)
@[go_sem] theorem tk26 : tk Try.prog 26 = some ⟨false, 1, [.slice none 0 0], .sl 3 32 [.bool false, .int .i64 0, .string ⟨#[]⟩] false⟩ := _root_.id (by kernel_rfl)
@[go_sem] theorem is26 : isSl Try.prog 26 = true := _root_.id (by kernel_rfl)
@[go_sem] theorem tk28 : tk Try.prog 28 = some ⟨true, 4, [.string ⟨#[]⟩, .string ⟨#[]⟩, .string ⟨#[]⟩, .slice none 0 0], .st [(0, 1, false), (1, 1, false), (2, 1, false), (3, 1, false)]⟩ := _root_.id (by kernel_rfl)
@[go_sem] theorem tk30 : tk Try.prog 30 = some ⟨true, 32, zl0, .arr 32 1 false⟩ := _root_.id (by kernel_rfl)
@[go_sem] theorem tk32 : tk Try.prog 32 = some ⟨true, 38, zl1, .st [(0, 1, false), (1, 1, false), (2, 4, true), (6, 32, true)]⟩ := _root_.id (by kernel_rfl)
@[go_sem] theorem tk34 : tk Try.prog 34 = some ⟨false, 1, [.slice none 0 0], .sl 38 120 zl1 false⟩ := _root_.id (by kernel_rfl)
@[go_sem] theorem is34 : isSl Try.prog 34 = true := _root_.id (by kernel_rfl)
@[go_sem] theorem tk38 : tk Try.prog 38 = some ⟨true, 40, zl2, .st [(0, 1, false), (1, 1, false), (2, 38, true)]⟩ := _root_.id (by kernel_rfl)
@[go_sem] theorem tk39 : tk Try.prog 39 = some ⟨false, 1, [.slice none 0 0], .sl 40 136 zl2 false⟩ := _root_.id (by kernel_rfl)
@[go_sem] theorem is39 : isSl Try.prog 39 = true := _root_.id (by kernel_rfl)
@[go_sem] theorem tk45 : tk Try.prog 45 = some ⟨false, 1, [.slice none 0 0], .sl 3 24 [.int .i64 0, .int .i64 0, .int .i64 0] false⟩ := _root_.id (by kernel_rfl)
@[go_sem] theorem is45 : isSl Try.prog 45 = true := _root_.id (by kernel_rfl)
@[go_sem] theorem tk46 : tk Try.prog 46 = some ⟨false, 1, [.pointer none], .ptr 57⟩ := _root_.id (by kernel_rfl)
@[go_sem] theorem ip46 : isPtr Try.prog 46 = true := _root_.id (by kernel_rfl)
@[go_sem] theorem tk50 : tk Try.prog 50 = some ⟨true, 3, [.int .i64 0, .int .i64 0, .int .i64 0], .st [(0, 1, false), (1, 1, false), (2, 1, false)]⟩ := _root_.id (by kernel_rfl)
@[go_sem] theorem tk52 : tk Try.prog 52 = some ⟨true, 2, [.pointer none, .pointer none], .arr 2 1 false⟩ := _root_.id (by kernel_rfl)
@[go_sem] theorem tk53 : tk Try.prog 53 = some ⟨true, 2, [.slice none 0 0, .slice none 0 0], .arr 2 1 false⟩ := _root_.id (by kernel_rfl)
@[go_sem] theorem tk54 : tk Try.prog 54 = some ⟨true, 2, [.int .i64 0, .int .i64 0], .arr 2 1 false⟩ := _root_.id (by kernel_rfl)
@[go_sem] theorem tk55 : tk Try.prog 55 = some ⟨true, 2, [.slice none 0 0, .slice none 0 0], .arr 2 1 false⟩ := _root_.id (by kernel_rfl)
@[go_sem] theorem tk57 : tk Try.prog 57 = some ⟨true, 8, [.pointer none, .pointer none, .slice none 0 0, .slice none 0 0, .int .i64 0, .int .i64 0, .slice none 0 0, .slice none 0 0], .st [(0, 2, true), (2, 2, true), (4, 2, true), (6, 2, true)]⟩ := _root_.id (by kernel_rfl)
@[go_sem] theorem tk58 : tk Try.prog 58 = some ⟨false, 1, [.slice none 0 0], .sl 41 144 zl3 false⟩ := _root_.id (by kernel_rfl)
@[go_sem] theorem is58 : isSl Try.prog 58 = true := _root_.id (by kernel_rfl)
@[go_sem] theorem tk60 : tk Try.prog 60 = some ⟨false, 1, [.pointer none], .ptr 63⟩ := _root_.id (by kernel_rfl)
@[go_sem] theorem ip60 : isPtr Try.prog 60 = true := _root_.id (by kernel_rfl)
@[go_sem] theorem tk61 : tk Try.prog 61 = some ⟨false, 1, [.slice none 0 0], .sl 39 128 zl4 false⟩ := _root_.id (by kernel_rfl)
@[go_sem] theorem is61 : isSl Try.prog 61 = true := _root_.id (by kernel_rfl)
@[go_sem] theorem tk63 : tk Try.prog 63 = some ⟨true, 5, [.slice none 0 0, .int .i64 0, .int .i64 0, .slice none 0 0, .bool false], .st [(0, 1, false), (1, 1, false), (2, 1, false), (3, 1, false), (4, 1, false)]⟩ := _root_.id (by kernel_rfl)
@[go_sem] theorem tk65 : tk Try.prog 65 = some ⟨true, 41, zl3, .st [(0, 1, false), (1, 40, true)]⟩ := _root_.id (by kernel_rfl)
@[go_sem] theorem tk68 : tk Try.prog 68 = some ⟨false, 1, [.map none], .map 3 32⟩ := _root_.id (by kernel_rfl)
@[go_sem] theorem im68 : isMapT Try.prog 68 = true := _root_.id (by kernel_rfl)
@[go_sem] theorem tk70 : tk Try.prog 70 = some ⟨true, 6, [.slice none 0 0, .int .i64 0, .int .i64 0, .map none, .bool false, .bool false], .st [(0, 1, false), (1, 1, false), (2, 1, false), (3, 1, false), (4, 1, false), (5, 1, false)]⟩ := _root_.id (by kernel_rfl)
@[go_sem] theorem tk76 : tk Try.prog 76 = some ⟨false, 1, [.slice none 0 0], .sl 4 72 [.string ⟨#[]⟩, .string ⟨#[]⟩, .string ⟨#[]⟩, .slice none 0 0] false⟩ := _root_.id (by kernel_rfl)
@[go_sem] theorem is76 : isSl Try.prog 76 = true := _root_.id (by kernel_rfl)
@[go_sem] theorem tk81 : tk Try.prog 81 = some ⟨true, 39, zl4, .st [(0, 1, false), (1, 38, true)]⟩ := _root_.id (by kernel_rfl)
@[go_sem] theorem tk85 : tk Try.prog 85 = some ⟨true, 3, [.bool false, .int .i64 0, .string ⟨#[]⟩], .st [(0, 1, false), (1, 1, false), (2, 1, false)]⟩ := _root_.id (by kernel_rfl)
@[go_sem] theorem ic68 : isConc Try.prog 68 = true := _root_.id (by kernel_rfl)
end Go.Proofs.Ytpdbmnogfanpmaa
