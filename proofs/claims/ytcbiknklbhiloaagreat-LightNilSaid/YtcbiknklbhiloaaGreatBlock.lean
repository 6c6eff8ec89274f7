/- The digest's block, reckoned by the kernel once, whatever the words and bytes. -/
import Derived.Test.YtcbiknklbhiloaaGreatAmSha2
import Derived.Test.YtcbiknklbhiloaaGreatInst
namespace Go.Proofs.YtcbiknklbhiloaaGreat
open Go Go.AM
set_option maxRecDepth 1000000
def ks : List Int := [1116352408, 1899447441, 3049323471, 3921009573, 961987163, 1508970993, 2453635748, 2870763221, 3624381080, 310598401, 607225278, 1426881987, 1925078388, 2162078206, 2614888103, 3248222580, 3835390401, 4022224774, 264347078, 604807628, 770255983, 1249150122, 1555081692, 1996064986, 2554220882, 2821834349, 2952996808, 3210313671, 3336571891, 3584528711, 113926993, 338241895, 666307205, 773529912, 1294757372, 1396182291, 1695183700, 1986661051, 2177026350, 2456956037, 2730485921, 2820302411, 3259730800, 3345764771, 3516065817, 3600352804, 4094571909, 275423344, 430227734, 506948616, 659060556, 883997877, 958139571, 1322822218, 1537002063, 1747873779, 1955562222, 2024104815, 2227730452, 2361852424, 2428436474, 2756734187, 3204031479, 3329325298]
theorem block_eval (x0 x1 x2 x3 x4 x5 x6 x7 : Int) (y : Nat → Int) (cap : ACap) : get0 (call1 113 [.ptr 0 0, .sl 1 0 64 cap] (blockH x0 x1 x2 x3 x4 x5 x6 x7 y)) = some (.cells (intsAV .u32 (blockW ks [x0, x1, x2, x3, x4, x5, x6, x7] y) ++ [.opq 0, .opq 1]) .rwr) := by kernel_rfl
theorem block_len (x0 x1 x2 x3 x4 x5 x6 x7 : Int) (y : Nat → Int) : (blockW ks [x0, x1, x2, x3, x4, x5, x6, x7] y).length = 8 := by kernel_rfl
theorem sum113 : SumOK 0 Tryz.prog 113 (blockS ks) := block_ok (A := ap1) rfl call1OK block_eval block_len
end Go.Proofs.YtcbiknklbhiloaaGreat
