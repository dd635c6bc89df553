/- The types of this translation, as the logic asks of them. Conditions: none. -/
import Derived.Test.YtbdojogkjfmofaaRows
import Derived.Test.YtbdojogkjfmofaaAvSimp
namespace Go.Proofs.Ytbdojogkjfmofaa
open Go Go.Av
@[go_sem] theorem tk3 : tk Try.prog 3 = some ⟨false, 1, [.int .i64 0], .int .i64⟩ := _root_.id (by kernel_rfl)
@[go_sem] theorem tk4 : tk Try.prog 4 = some ⟨false, 1, [.bool false], .bool⟩ := _root_.id (by kernel_rfl)
@[go_sem] theorem ib4 : isBool Try.prog 4 = true := _root_.id (by kernel_rfl)
@[go_sem] theorem tk5 : tk Try.prog 5 = some ⟨false, 1, [.int .u8 0], .int .u8⟩ := _root_.id (by kernel_rfl)
@[go_sem] theorem tk9 : tk Try.prog 9 = some ⟨false, 1, [.string ⟨#[]⟩], .str⟩ := _root_.id (by kernel_rfl)
@[go_sem] theorem tk22 : tk Try.prog 22 = some ⟨false, 1, [.slice none 0 0], .sl 3 24 [.int .i64 0, .int .i64 0, .int .i64 0] false⟩ := _root_.id (by kernel_rfl)
@[go_sem] theorem tk23 : tk Try.prog 23 = some ⟨false, 1, [.pointer none], .ptr 30⟩ := _root_.id (by kernel_rfl)
@[go_sem] theorem ip23 : isPtr Try.prog 23 = true := _root_.id (by kernel_rfl)
@[go_sem] theorem tk25 : tk Try.prog 25 = some ⟨false, 1, [.int .i64 0], .int .i64⟩ := _root_.id (by kernel_rfl)
@[go_sem] theorem tk26 : tk Try.prog 26 = some ⟨false, 1, [.pointer none], .ptr 56⟩ := _root_.id (by kernel_rfl)
@[go_sem] theorem ip26 : isPtr Try.prog 26 = true := _root_.id (by kernel_rfl)
@[go_sem] theorem tk27 : tk Try.prog 27 = some ⟨true, 4, [.pointer none, .pointer none, .pointer none, .pointer none], .arr 4 1 false⟩ := _root_.id (by kernel_rfl)
@[go_sem] theorem tk28 : tk Try.prog 28 = some ⟨false, 1, [.slice none 0 0], .sl 3 24 [.int .i64 0, .int .i64 0, .bool false] false⟩ := _root_.id (by kernel_rfl)
@[go_sem] theorem tk30 : tk Try.prog 30 = some ⟨true, 6, [.pointer none, .pointer none, .pointer none, .pointer none, .slice none 0 0, .bool false], .st [(0, 4, true), (4, 1, false), (5, 1, false)]⟩ := _root_.id (by kernel_rfl)
@[go_sem] theorem tk34 : tk Try.prog 34 = some ⟨true, 3, [.int .i64 0, .int .i64 0, .int .i64 0], .st [(0, 1, false), (1, 1, false), (2, 1, false)]⟩ := _root_.id (by kernel_rfl)
@[go_sem] theorem tk38 : tk Try.prog 38 = some ⟨false, 1, [.slice none 0 0], .sl 2 24 [.int .i64 0, .string ⟨#[]⟩] false⟩ := _root_.id (by kernel_rfl)
@[go_sem] theorem tk40 : tk Try.prog 40 = some ⟨false, 1, [.pointer none], .ptr 42⟩ := _root_.id (by kernel_rfl)
@[go_sem] theorem ip40 : isPtr Try.prog 40 = true := _root_.id (by kernel_rfl)
@[go_sem] theorem tk42 : tk Try.prog 42 = some ⟨true, 4, [.bool false, .bool false, .string ⟨#[]⟩, .int .i64 0], .st [(0, 1, false), (1, 1, false), (2, 1, false), (3, 1, false)]⟩ := _root_.id (by kernel_rfl)
@[go_sem] theorem tk44 : tk Try.prog 44 = some ⟨true, 2, [.int .i64 0, .string ⟨#[]⟩], .st [(0, 1, false), (1, 1, false)]⟩ := _root_.id (by kernel_rfl)
@[go_sem] theorem tk54 : tk Try.prog 54 = some ⟨true, 3, [.bool false, .string ⟨#[]⟩, .int .i64 0], .st [(0, 1, false), (1, 1, false), (2, 1, false)]⟩ := _root_.id (by kernel_rfl)
@[go_sem] theorem tk56 : tk Try.prog 56 = some ⟨true, 5, [.bool false, .string ⟨#[]⟩, .int .i64 0, .bool false, .bool false], .st [(0, 3, true), (3, 1, false), (4, 1, false)]⟩ := _root_.id (by kernel_rfl)
@[go_sem] theorem tk57 : tk Try.prog 57 = some ⟨true, 2, [.pointer none, .pointer none], .arr 2 1 false⟩ := _root_.id (by kernel_rfl)
@[go_sem] theorem tk61 : tk Try.prog 61 = some ⟨true, 3, [.int .i64 0, .int .i64 0, .bool false], .st [(0, 1, false), (1, 1, false), (2, 1, false)]⟩ := _root_.id (by kernel_rfl)
@[go_sem] theorem tk64 : tk Try.prog 64 = some ⟨false, 1, [.slice none 0 0], .sl 1 1 [.int .u8 0] true⟩ := _root_.id (by kernel_rfl)
end Go.Proofs.Ytbdojogkjfmofaa
