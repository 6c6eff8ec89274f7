/- Rows of the table of digests, each reckoned by the kernel. -/
import Derived.Test.YtcbiknklbhiloaaGreatInst
namespace Go.Proofs.YtcbiknklbhiloaaGreat
open Go Go.AM
set_option maxRecDepth 1000000
def row12 : Row := ⟨[.int .u8 (.ofNat 75), .sl 0 0 2 (.exact 2)], [[.str [115, 101, 101, 100], .str [12]]], .str [124, 105, 9, 224, 78, 43, 220, 23, 76, 227, 88, 104, 85, 154, 243, 60, 115, 210, 204, 251, 40, 249, 222, 76, 199, 154, 105, 186, 144, 187, 83, 156]⟩
theorem row12_ok : RowOK 0 call1 38 row12 := rowOK_of (by kernel_rfl)
def row13 : Row := ⟨[.int .u8 (.ofNat 75), .sl 0 0 2 (.exact 2)], [[.str [115, 101, 101, 100], .str [13]]], .str [189, 84, 52, 31, 147, 221, 132, 123, 44, 105, 45, 209, 193, 66, 178, 75, 173, 118, 36, 191, 217, 57, 229, 194, 222, 29, 28, 152, 3, 117, 67, 32]⟩
theorem row13_ok : RowOK 0 call1 38 row13 := rowOK_of (by kernel_rfl)
def row14 : Row := ⟨[.int .u8 (.ofNat 75), .sl 0 0 2 (.exact 2)], [[.str [115, 101, 101, 100], .str [14]]], .str [116, 61, 198, 166, 177, 125, 85, 111, 222, 100, 21, 139, 186, 135, 187, 17, 109, 104, 22, 11, 175, 215, 127, 112, 99, 2, 230, 200, 4, 133, 245, 219]⟩
theorem row14_ok : RowOK 0 call1 38 row14 := rowOK_of (by kernel_rfl)
def row15 : Row := ⟨[.int .u8 (.ofNat 75), .sl 0 0 2 (.exact 2)], [[.str [115, 101, 101, 100], .str [15]]], .str [125, 110, 156, 219, 143, 24, 251, 145, 80, 200, 98, 3, 153, 76, 165, 104, 106, 190, 221, 163, 185, 137, 86, 58, 117, 151, 156, 109, 40, 80, 192, 30]⟩
theorem row15_ok : RowOK 0 call1 38 row15 := rowOK_of (by kernel_rfl)
end Go.Proofs.YtcbiknklbhiloaaGreat
