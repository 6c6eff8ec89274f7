/- Rows of the table of digests, each reckoned by the kernel. -/
import Derived.Test.YtcbiknklbhiloaaGreatInst
namespace Go.Proofs.YtcbiknklbhiloaaGreat
open Go Go.AM
set_option maxRecDepth 1000000
def row0 : Row := ⟨[.int .u8 (.ofNat 75), .sl 0 0 2 (.exact 2)], [[.str [115, 101, 101, 100], .str [0]]], .str [117, 251, 254, 151, 91, 135, 109, 176, 119, 94, 9, 168, 229, 204, 234, 225, 132, 135, 164, 167, 244, 190, 126, 223, 161, 147, 232, 178, 84, 44, 18, 206]⟩
theorem row0_ok : RowOK 0 call1 38 row0 := rowOK_of (by kernel_rfl)
def row1 : Row := ⟨[.int .u8 (.ofNat 75), .sl 0 0 2 (.exact 2)], [[.str [115, 101, 101, 100], .str [1]]], .str [81, 147, 204, 167, 169, 210, 122, 13, 237, 50, 64, 81, 203, 150, 96, 137, 132, 12, 243, 107, 227, 66, 177, 190, 46, 178, 92, 94, 126, 172, 36, 26]⟩
theorem row1_ok : RowOK 0 call1 38 row1 := rowOK_of (by kernel_rfl)
def row2 : Row := ⟨[.int .u8 (.ofNat 75), .sl 0 0 2 (.exact 2)], [[.str [115, 101, 101, 100], .str [2]]], .str [203, 88, 99, 62, 167, 1, 88, 194, 85, 120, 48, 242, 83, 155, 36, 237, 229, 75, 100, 79, 244, 134, 135, 161, 128, 89, 233, 228, 244, 34, 234, 15]⟩
theorem row2_ok : RowOK 0 call1 38 row2 := rowOK_of (by kernel_rfl)
def row3 : Row := ⟨[.int .u8 (.ofNat 75), .sl 0 0 2 (.exact 2)], [[.str [115, 101, 101, 100], .str [3]]], .str [179, 93, 158, 248, 33, 59, 236, 205, 141, 10, 41, 218, 68, 248, 94, 131, 228, 158, 4, 196, 166, 242, 58, 240, 188, 43, 95, 116, 71, 213, 94, 250]⟩
theorem row3_ok : RowOK 0 call1 38 row3 := rowOK_of (by kernel_rfl)
end Go.Proofs.YtcbiknklbhiloaaGreat
