/- Rows of the table of digests, each reckoned by the kernel. -/
import Derived.Test.YtcbiknklbhiloaaGreatInst
namespace Go.Proofs.YtcbiknklbhiloaaGreat
open Go Go.AM
set_option maxRecDepth 1000000
def row8 : Row := ⟨[.int .u8 (.ofNat 75), .sl 0 0 2 (.exact 2)], [[.str [115, 101, 101, 100], .str [8]]], .str [144, 28, 118, 12, 45, 172, 199, 222, 70, 247, 174, 94, 151, 93, 173, 189, 217, 8, 166, 90, 55, 110, 115, 247, 98, 37, 117, 176, 60, 49, 98, 229]⟩
theorem row8_ok : RowOK 0 call1 38 row8 := rowOK_of (by kernel_rfl)
def row9 : Row := ⟨[.int .u8 (.ofNat 75), .sl 0 0 2 (.exact 2)], [[.str [115, 101, 101, 100], .str [9]]], .str [233, 239, 249, 89, 42, 82, 45, 189, 163, 119, 238, 218, 15, 158, 245, 122, 95, 204, 54, 122, 25, 62, 23, 174, 48, 141, 200, 253, 236, 241, 63, 89]⟩
theorem row9_ok : RowOK 0 call1 38 row9 := rowOK_of (by kernel_rfl)
def row10 : Row := ⟨[.int .u8 (.ofNat 75), .sl 0 0 2 (.exact 2)], [[.str [115, 101, 101, 100], .str [10]]], .str [69, 17, 144, 227, 139, 65, 229, 246, 157, 28, 130, 91, 186, 238, 142, 143, 131, 219, 98, 159, 131, 42, 97, 87, 102, 177, 59, 22, 7, 150, 165, 203]⟩
theorem row10_ok : RowOK 0 call1 38 row10 := rowOK_of (by kernel_rfl)
def row11 : Row := ⟨[.int .u8 (.ofNat 75), .sl 0 0 2 (.exact 2)], [[.str [115, 101, 101, 100], .str [11]]], .str [133, 185, 154, 172, 218, 17, 121, 23, 230, 76, 10, 162, 97, 235, 217, 31, 74, 128, 133, 108, 67, 68, 57, 188, 42, 33, 245, 19, 146, 141, 196, 94]⟩
theorem row11_ok : RowOK 0 call1 38 row11 := rowOK_of (by kernel_rfl)
end Go.Proofs.YtcbiknklbhiloaaGreat
