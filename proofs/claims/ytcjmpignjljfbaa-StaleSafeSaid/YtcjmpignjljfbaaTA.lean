/- Printed by wip/tools/gen2.py: texts of the loaded functions, as the pure machine tells them, and their plain forms. -/
import Derived.Test.YtcjmpignjljfbaaProg
import Derived.Test.YtcjmpignjljfbaaPM27
namespace Go.Proofs.Ytcjmpignjljfbaa
open Go.PM
set_option linter.unusedVariables false
set_option maxRecDepth 100000
noncomputable section
abbrev R2 : Row := Row.cons (Ty.int .i64) (Row.nil)
abbrev T2 : Type := Int
abbrev R3 : Row := Row.cons (Ty.int .i64) (Row.nil)
abbrev T3 : Type := Int
abbrev R65 : Row := Row.cons (Ty.int .i64) (Row.cons (Ty.int .i64) (Row.cons (Ty.bool) (Row.cons (Ty.str) (Row.nil))))
abbrev T65 : Type := Int × Int × Bool × ByteArray
abbrev R49 : Row := Row.cons (Ty.str) (Row.cons (Ty.sl R65) (Row.cons (Ty.bool) (Row.cons (Ty.int .i64) (Row.cons (Ty.int .i64) (Row.cons (Ty.int .i64) (Row.cons (Ty.int .i64) (Row.cons (Ty.int .i64) (Row.cons (Ty.int .i64) (Row.cons (Ty.int .i64) (Row.cons (Ty.bool) (Row.cons (Ty.str) (Row.nil))))))))))))
abbrev T49 : Type := ByteArray × (List T65) × Bool × Int × Int × Int × Int × Int × Int × Int × Bool × ByteArray
abbrev R68 : Row := Row.cons (Ty.int .i64) (Row.cons (Ty.int .i64) (Row.cons (Ty.int .i64) (Row.cons (Ty.int .i64) (Row.cons (Ty.int .i64) (Row.cons (Ty.int .i64) (Row.cons (Ty.bool) (Row.nil)))))))
abbrev T68 : Type := Int × Int × Int × Int × Int × Int × Bool
abbrev R41 : Row := Row.cons (Ty.str) (Row.cons (Ty.str) (Row.nil))
abbrev T41 : Type := ByteArray × ByteArray
abbrev R55 : Row := Row.cons (Ty.str) (Row.cons (Ty.str) (Row.nil))
abbrev T55 : Type := ByteArray × ByteArray
def tisL : List (Nat × TI) := [
  (2, .int .i64),
  (3, .int .i64),
  (4, .bool),
  (9, .str),
  (22, .slice 2 1 8 R2),
  (24, .int .i64),
  (29, .agg [.val (.int .i64 0), .val (.int .i64 0)] [(0, 1, false), (1, 1, false)] (some [.ckI, .ckI])),
  (30, .slice 49 12 128 R49),
  (31, .slice 68 7 56 R68),
  (33, .agg [.val (.int .i64 0), .val (.int .i64 0), .val (.int .i64 0), .val (.int .i64 0), .val (.int .i64 0), .val (.int .i64 0), .nil, .nil, .nil] [(0, 1, false), (1, 1, false), (2, 2, true), (4, 1, false), (5, 1, false), (6, 1, false), (7, 1, false), (8, 1, false)] (none)),
  (34, .slice 55 2 32 R55),
  (36, .slice 41 2 32 R41),
  (41, .agg [.val (.string ⟨#[]⟩), .val (.string ⟨#[]⟩)] [(0, 1, false), (1, 1, false)] (some [.ckS, .ckS])),
  (44, .agg [.val (.int .i64 0), .val (.int .i64 0), .val (.int .i64 0), .val (.int .i64 0)] [(0, 1, false), (1, 1, false), (2, 1, false), (3, 1, false)] (some [.ckI, .ckI, .ckI, .ckI])),
  (46, .agg [.val (.int .i64 0), .val (.int .i64 0), .val (.int .i64 0), .val (.int .i64 0), .val (.int .i64 0), .val (.int .i64 0), .val (.int .i64 0), .val (.bool false), .val (.string ⟨#[]⟩)] [(0, 4, true), (4, 1, false), (5, 2, true), (7, 1, false), (8, 1, false)] (some [.ckI, .ckI, .ckI, .ckI, .ckI, .ckI, .ckI, .ckB, .ckS])),
  (47, .slice 65 4 40 R65),
  (49, .agg [.val (.string ⟨#[]⟩), .nil, .val (.bool false), .val (.int .i64 0), .val (.int .i64 0), .val (.int .i64 0), .val (.int .i64 0), .val (.int .i64 0), .val (.int .i64 0), .val (.int .i64 0), .val (.bool false), .val (.string ⟨#[]⟩)] [(0, 1, false), (1, 1, false), (2, 1, false), (3, 9, true)] (none)),
  (55, .agg [.val (.string ⟨#[]⟩), .val (.string ⟨#[]⟩)] [(0, 1, false), (1, 1, false)] (some [.ckS, .ckS])),
  (60, .agg [.val (.int .i64 0), .nil, .val (.int .i64 0), .val (.int .i64 0), .val (.int .i64 0), .val (.int .i64 0), .val (.int .i64 0), .val (.int .i64 0), .val (.int .i64 0), .val (.int .i64 0), .val (.bool false)] [(0, 1, false), (1, 1, false), (2, 4, true), (6, 1, false), (7, 2, true), (9, 1, false), (10, 1, false)] (none)),
  (65, .agg [.val (.int .i64 0), .val (.int .i64 0), .val (.bool false), .val (.string ⟨#[]⟩)] [(0, 2, true), (2, 1, false), (3, 1, false)] (some [.ckI, .ckI, .ckB, .ckS])),
  (68, .agg [.val (.int .i64 0), .val (.int .i64 0), .val (.int .i64 0), .val (.int .i64 0), .val (.int .i64 0), .val (.int .i64 0), .val (.bool false)] [(0, 4, true), (4, 2, true), (6, 1, false)] (some [.ckI, .ckI, .ckI, .ckI, .ckI, .ckI, .ckB])),
  (83, .slice 3 1 8 R3),
  (85, .int .u64)
]
def tis : Nat → Option TI := lookT tisL
theorem tab : TabOk Try.prog tis := tabOk_of (by kernel_rfl)
theorem mx : Try.prog.follows .mixedOrders = true := by kernel_rfl
noncomputable abbrev sp39 (F : (ByteArray × ByteArray) → (Int)) : PM.Spec := spF [.one, .one] (Row.cons (Ty.str) (Row.cons (Ty.str) (Row.nil))) (.one) (Row.cons (Ty.int .i64) (Row.nil)) F
end
end Go.Proofs.Ytcjmpignjljfbaa
