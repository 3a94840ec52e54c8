/- The types of the program that the walks meet. -/
import Derived.Test.YtmphklmhhcmbnaaDoorProg
import Derived.Test.YtmphklmhhcmbnaaDoorXB
import Derived.KernelRfl
namespace Go.Proofs.YtmphklmhhcmbnaaDoorW.Ax
open Go
def Tys : Tb := [(2, ⟨.int .i64, [.int .i64], 8⟩),
  (3, ⟨.int .i64, [.int .i64], 8⟩),
  (4, ⟨.bool, [.bool], 1⟩),
  (5, ⟨.int .u8, [.int .u8], 1⟩),
  (7, ⟨.struct 4, [.int .i64, .int .i64, .bool, .int .u8], 24⟩),
  (9, ⟨.str, [.str], 16⟩),
  (12, ⟨.int .u64, [.int .u64], 8⟩),
  (13, ⟨.struct 2, [.str, .int .u64], 24⟩),
  (15, ⟨.other, [.junk], 8⟩),
  (16, ⟨.other, [.junk], 8⟩),
  (17, ⟨.other, [.junk], 8⟩),
  (18, ⟨.struct 1, [.junk], 8⟩),
  (21, ⟨.int .i32, [.int .i32], 4⟩),
  (22, ⟨.slice 3, [.nil], 24⟩),
  (23, ⟨.struct 1, [.nil], 24⟩),
  (24, ⟨.struct 1, [.nil], 24⟩),
  (27, ⟨.struct 1, [.nil], 24⟩),
  (40, ⟨.map 3 3, [.junk], 8⟩),
  (41, ⟨.slice 5, [.nil], 24⟩),
  (53, ⟨.map 3 4, [.junk], 8⟩),
  (57, ⟨.int .u64, [.int .u64], 8⟩),
  (68, ⟨.int .u64, [.int .u64], 8⟩),
  (75, ⟨.int .u32, [.int .u32], 4⟩),
  (82, ⟨.struct 4, [.junk, .junk, .junk, .str], 40⟩),
  (91, ⟨.other, [.junk], 8⟩),
  (94, ⟨.struct 11, [.int .u64, .int .u64, .int .u32, .int .u8, .int .u8, .int .u8, .int .u8, .junk, .junk, .int .i32, .int .i32], 48⟩)]
instance tysOk : TbOk Go.Proofs.Tryd.prog Tys := ⟨by kernel_rfl, by kernel_rfl⟩
end Go.Proofs.YtmphklmhhcmbnaaDoorW.Ax
