/- Rows of the table of digests, each reckoned by the kernel. -/
import Derived.Test.YtcbiknklbhiloaaGreatInst2
namespace Go.Proofs.YtcbiknklbhiloaaGreat
open Go Go.AM
set_option maxRecDepth 1000000
def row0 : Row := ⟨[.int .u8 (.ofNat 75), .sl 0 0 2 (.exact 2)], [[.str [115, 101, 101, 100], .str [0]]], .str [117, 251, 254, 151, 91, 135, 109, 176, 119, 94, 9, 168, 229, 204, 234, 225, 132, 135, 164, 167, 244, 190, 126, 223, 161, 147, 232, 178, 84, 44, 18, 206]⟩
theorem row0_ok : RowOK 0 call2 38 row0 := rowOK_of (by kernel_rfl)
def row1 : Row := ⟨[.int .u8 (.ofNat 75), .sl 0 0 2 (.exact 2)], [[.str [115, 101, 101, 100], .str [1]]], .str [81, 147, 204, 167, 169, 210, 122, 13, 237, 50, 64, 81, 203, 150, 96, 137, 132, 12, 243, 107, 227, 66, 177, 190, 46, 178, 92, 94, 126, 172, 36, 26]⟩
theorem row1_ok : RowOK 0 call2 38 row1 := rowOK_of (by kernel_rfl)
def row2 : Row := ⟨[.int .u8 (.ofNat 75), .sl 0 0 2 (.exact 2)], [[.str [115, 101, 101, 100], .str [2]]], .str [203, 88, 99, 62, 167, 1, 88, 194, 85, 120, 48, 242, 83, 155, 36, 237, 229, 75, 100, 79, 244, 134, 135, 161, 128, 89, 233, 228, 244, 34, 234, 15]⟩
theorem row2_ok : RowOK 0 call2 38 row2 := rowOK_of (by kernel_rfl)
def row3 : Row := ⟨[.int .u8 (.ofNat 75), .sl 0 0 2 (.exact 2)], [[.str [115, 101, 101, 100], .str [3]]], .str [179, 93, 158, 248, 33, 59, 236, 205, 141, 10, 41, 218, 68, 248, 94, 131, 228, 158, 4, 196, 166, 242, 58, 240, 188, 43, 95, 116, 71, 213, 94, 250]⟩
theorem row3_ok : RowOK 0 call2 38 row3 := rowOK_of (by kernel_rfl)
def row4 : Row := ⟨[.int .u8 (.ofNat 75), .sl 0 0 2 (.exact 2)], [[.str [115, 101, 101, 100], .str [4]]], .str [113, 11, 107, 6, 97, 71, 0, 147, 209, 92, 198, 148, 31, 25, 134, 131, 199, 6, 1, 65, 218, 162, 87, 116, 26, 55, 201, 161, 119, 34, 90, 67]⟩
theorem row4_ok : RowOK 0 call2 38 row4 := rowOK_of (by kernel_rfl)
def row5 : Row := ⟨[.int .u8 (.ofNat 75), .sl 0 0 2 (.exact 2)], [[.str [115, 101, 101, 100], .str [5]]], .str [223, 49, 245, 236, 218, 46, 118, 222, 224, 81, 178, 99, 67, 196, 48, 29, 180, 123, 131, 60, 194, 185, 148, 90, 51, 188, 185, 151, 165, 250, 232, 217]⟩
theorem row5_ok : RowOK 0 call2 38 row5 := rowOK_of (by kernel_rfl)
def row6 : Row := ⟨[.int .u8 (.ofNat 75), .sl 0 0 2 (.exact 2)], [[.str [115, 101, 101, 100], .str [6]]], .str [14, 132, 95, 224, 224, 43, 27, 17, 76, 209, 88, 254, 146, 49, 3, 54, 150, 185, 110, 100, 53, 61, 44, 13, 201, 166, 124, 237, 80, 159, 145, 71]⟩
theorem row6_ok : RowOK 0 call2 38 row6 := rowOK_of (by kernel_rfl)
def row7 : Row := ⟨[.int .u8 (.ofNat 75), .sl 0 0 2 (.exact 2)], [[.str [115, 101, 101, 100], .str [7]]], .str [202, 225, 52, 163, 198, 103, 38, 239, 76, 84, 13, 21, 157, 42, 212, 179, 24, 115, 27, 239, 10, 165, 230, 134, 97, 51, 186, 24, 199, 81, 33, 143]⟩
theorem row7_ok : RowOK 0 call2 38 row7 := rowOK_of (by kernel_rfl)
def row8 : Row := ⟨[.int .u8 (.ofNat 75), .sl 0 0 2 (.exact 2)], [[.str [115, 101, 101, 100], .str [8]]], .str [144, 28, 118, 12, 45, 172, 199, 222, 70, 247, 174, 94, 151, 93, 173, 189, 217, 8, 166, 90, 55, 110, 115, 247, 98, 37, 117, 176, 60, 49, 98, 229]⟩
theorem row8_ok : RowOK 0 call2 38 row8 := rowOK_of (by kernel_rfl)
def row9 : Row := ⟨[.int .u8 (.ofNat 75), .sl 0 0 2 (.exact 2)], [[.str [115, 101, 101, 100], .str [9]]], .str [233, 239, 249, 89, 42, 82, 45, 189, 163, 119, 238, 218, 15, 158, 245, 122, 95, 204, 54, 122, 25, 62, 23, 174, 48, 141, 200, 253, 236, 241, 63, 89]⟩
theorem row9_ok : RowOK 0 call2 38 row9 := rowOK_of (by kernel_rfl)
def row10 : Row := ⟨[.int .u8 (.ofNat 75), .sl 0 0 2 (.exact 2)], [[.str [115, 101, 101, 100], .str [10]]], .str [69, 17, 144, 227, 139, 65, 229, 246, 157, 28, 130, 91, 186, 238, 142, 143, 131, 219, 98, 159, 131, 42, 97, 87, 102, 177, 59, 22, 7, 150, 165, 203]⟩
theorem row10_ok : RowOK 0 call2 38 row10 := rowOK_of (by kernel_rfl)
def row11 : Row := ⟨[.int .u8 (.ofNat 75), .sl 0 0 2 (.exact 2)], [[.str [115, 101, 101, 100], .str [11]]], .str [133, 185, 154, 172, 218, 17, 121, 23, 230, 76, 10, 162, 97, 235, 217, 31, 74, 128, 133, 108, 67, 68, 57, 188, 42, 33, 245, 19, 146, 141, 196, 94]⟩
theorem row11_ok : RowOK 0 call2 38 row11 := rowOK_of (by kernel_rfl)
def row12 : Row := ⟨[.int .u8 (.ofNat 75), .sl 0 0 2 (.exact 2)], [[.str [115, 101, 101, 100], .str [12]]], .str [124, 105, 9, 224, 78, 43, 220, 23, 76, 227, 88, 104, 85, 154, 243, 60, 115, 210, 204, 251, 40, 249, 222, 76, 199, 154, 105, 186, 144, 187, 83, 156]⟩
theorem row12_ok : RowOK 0 call2 38 row12 := rowOK_of (by kernel_rfl)
def row13 : Row := ⟨[.int .u8 (.ofNat 75), .sl 0 0 2 (.exact 2)], [[.str [115, 101, 101, 100], .str [13]]], .str [189, 84, 52, 31, 147, 221, 132, 123, 44, 105, 45, 209, 193, 66, 178, 75, 173, 118, 36, 191, 217, 57, 229, 194, 222, 29, 28, 152, 3, 117, 67, 32]⟩
theorem row13_ok : RowOK 0 call2 38 row13 := rowOK_of (by kernel_rfl)
end Go.Proofs.YtcbiknklbhiloaaGreat
