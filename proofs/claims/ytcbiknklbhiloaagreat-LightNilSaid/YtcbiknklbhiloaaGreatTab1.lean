/- Rows of the table of digests, each reckoned by the kernel. -/
import Derived.Test.YtcbiknklbhiloaaGreatInst
namespace Go.Proofs.YtcbiknklbhiloaaGreat
open Go Go.AM
set_option maxRecDepth 1000000
def row4 : Row := ⟨[.int .u8 (.ofNat 75), .sl 0 0 2 (.exact 2)], [[.str [115, 101, 101, 100], .str [4]]], .str [113, 11, 107, 6, 97, 71, 0, 147, 209, 92, 198, 148, 31, 25, 134, 131, 199, 6, 1, 65, 218, 162, 87, 116, 26, 55, 201, 161, 119, 34, 90, 67]⟩
theorem row4_ok : RowOK 0 call1 38 row4 := rowOK_of (by kernel_rfl)
def row5 : Row := ⟨[.int .u8 (.ofNat 75), .sl 0 0 2 (.exact 2)], [[.str [115, 101, 101, 100], .str [5]]], .str [223, 49, 245, 236, 218, 46, 118, 222, 224, 81, 178, 99, 67, 196, 48, 29, 180, 123, 131, 60, 194, 185, 148, 90, 51, 188, 185, 151, 165, 250, 232, 217]⟩
theorem row5_ok : RowOK 0 call1 38 row5 := rowOK_of (by kernel_rfl)
def row6 : Row := ⟨[.int .u8 (.ofNat 75), .sl 0 0 2 (.exact 2)], [[.str [115, 101, 101, 100], .str [6]]], .str [14, 132, 95, 224, 224, 43, 27, 17, 76, 209, 88, 254, 146, 49, 3, 54, 150, 185, 110, 100, 53, 61, 44, 13, 201, 166, 124, 237, 80, 159, 145, 71]⟩
theorem row6_ok : RowOK 0 call1 38 row6 := rowOK_of (by kernel_rfl)
def row7 : Row := ⟨[.int .u8 (.ofNat 75), .sl 0 0 2 (.exact 2)], [[.str [115, 101, 101, 100], .str [7]]], .str [202, 225, 52, 163, 198, 103, 38, 239, 76, 84, 13, 21, 157, 42, 212, 179, 24, 115, 27, 239, 10, 165, 230, 134, 97, 51, 186, 24, 199, 81, 33, 143]⟩
theorem row7_ok : RowOK 0 call1 38 row7 := rowOK_of (by kernel_rfl)
end Go.Proofs.YtcbiknklbhiloaaGreat
