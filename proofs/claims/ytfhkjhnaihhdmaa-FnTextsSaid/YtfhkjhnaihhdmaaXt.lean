/- The types of the program that the walks meet. -/
import Derived.Test.YtfhkjhnaihhdmaaProg
import Derived.Test.YtfhkjhnaihhdmaaXB
import Derived.KernelRfl
namespace Go.Proofs.YtfhkjhnaihhdmaaW.Ax
open Go
def Tys : Tb := [(2, ⟨.int .i64, [.int .i64], 8⟩),
  (3, ⟨.int .i64, [.int .i64], 8⟩),
  (4, ⟨.bool, [.bool], 1⟩),
  (5, ⟨.int .u8, [.int .u8], 1⟩),
  (7, ⟨.struct 4, [.int .i64, .int .i64, .bool, .int .u8], 24⟩),
  (9, ⟨.str, [.str], 16⟩),
  (12, ⟨.int .u64, [.int .u64], 8⟩),
  (13, ⟨.struct 2, [.str, .int .u64], 24⟩),
  (15, ⟨.other, [.junk], 8⟩),
  (16, ⟨.other, [.junk], 8⟩),
  (17, ⟨.other, [.junk], 8⟩),
  (18, ⟨.struct 1, [.junk], 8⟩),
  (21, ⟨.int .i32, [.int .i32], 4⟩),
  (22, ⟨.slice 5, [.nil], 24⟩),
  (31, ⟨.slice 3, [.nil], 24⟩),
  (32, ⟨.struct 1, [.nil], 24⟩),
  (33, ⟨.struct 1, [.nil], 24⟩),
  (67, ⟨.other, [.junk], 8⟩),
  (72, ⟨.int .u64, [.int .u64], 8⟩),
  (94, ⟨.struct 3, [.nil, .int .i64, .int .i64], 40⟩),
  (95, ⟨.struct 3, [.nil, .int .i64, .int .i64], 40⟩),
  (101, ⟨.slice 31, [.nil], 24⟩),
  (102, ⟨.map 3 3, [.junk], 8⟩),
  (104, ⟨.slice 9, [.nil], 24⟩),
  (112, ⟨.struct 4, [.junk, .junk, .junk, .str], 40⟩),
  (118, ⟨.int .u32, [.int .u32], 4⟩),
  (122, ⟨.other, [.junk], 8⟩),
  (125, ⟨.struct 11, [.int .u64, .int .u64, .int .u32, .int .u8, .int .u8, .int .u8, .int .u8, .junk, .junk, .int .i32, .int .i32], 48⟩)]
instance tysOk : TbOk Go.Proofs.Try.prog Tys := ⟨by kernel_rfl, by kernel_rfl⟩
end Go.Proofs.YtfhkjhnaihhdmaaW.Ax
