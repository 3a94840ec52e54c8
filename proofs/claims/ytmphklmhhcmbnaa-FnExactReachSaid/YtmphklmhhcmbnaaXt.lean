/- The types of the program that the walks meet. -/
import Derived.Test.YtmphklmhhcmbnaaProg
import Derived.Test.YtmphklmhhcmbnaaXB
import Derived.KernelRfl
namespace Go.Proofs.YtmphklmhhcmbnaaW.Ax
open Go
def Tys : Tb := [(2, ⟨.int .i64, [.int .i64], 8⟩),
  (3, ⟨.int .i64, [.int .i64], 8⟩),
  (4, ⟨.bool, [.bool], 1⟩),
  (5, ⟨.int .u8, [.int .u8], 1⟩),
  (7, ⟨.struct 4, [.int .i64, .int .i64, .bool, .int .u8], 24⟩),
  (9, ⟨.str, [.str], 16⟩),
  (12, ⟨.int .u64, [.int .u64], 8⟩),
  (13, ⟨.struct 2, [.str, .int .u64], 24⟩),
  (15, ⟨.other, [.junk], 8⟩),
  (16, ⟨.other, [.junk], 8⟩),
  (17, ⟨.other, [.junk], 8⟩),
  (18, ⟨.struct 1, [.junk], 8⟩),
  (21, ⟨.int .i32, [.int .i32], 4⟩),
  (22, ⟨.slice 3, [.nil], 24⟩),
  (23, ⟨.struct 1, [.nil], 24⟩),
  (24, ⟨.struct 1, [.nil], 24⟩),
  (26, ⟨.struct 4, [.int .i64, .nil, .nil, .int .i64], 64⟩),
  (27, ⟨.struct 4, [.int .i64, .nil, .nil, .int .i64], 64⟩),
  (29, ⟨.struct 1, [.nil], 24⟩),
  (40, ⟨.struct 4, [.int .i64, .nil, .nil, .int .i64], 64⟩),
  (54, ⟨.other, [.junk], 8⟩),
  (58, ⟨.int .u64, [.int .u64], 8⟩),
  (72, ⟨.map 3 4, [.junk], 8⟩),
  (89, ⟨.slice 22, [.nil], 24⟩),
  (92, ⟨.int .i64, [.int .i64], 8⟩),
  (99, ⟨.int .u32, [.int .u32], 4⟩),
  (101, ⟨.int .u64, [.int .u64], 8⟩),
  (103, ⟨.int .u64, [.int .u64], 8⟩),
  (107, ⟨.other, [.junk], 8⟩),
  (110, ⟨.other, [.junk], 8⟩),
  (114, ⟨.struct 4, [.junk, .junk, .junk, .str], 40⟩),
  (123, ⟨.other, [.junk], 8⟩),
  (126, ⟨.struct 11, [.int .u64, .int .u64, .int .u32, .int .u8, .int .u8, .int .u8, .int .u8, .junk, .junk, .int .i32, .int .i32], 48⟩)]
instance tysOk : TbOk Go.Proofs.Try.prog Tys := ⟨by kernel_rfl, by kernel_rfl⟩
end Go.Proofs.YtmphklmhhcmbnaaW.Ax
