/- The types of the program that the walks meet. -/
import Derived.Test.YtfnfiapacbeemaaProg
import Derived.Test.YtfnfiapacbeemaaXB
import Derived.KernelRfl
namespace Go.Proofs.YtfnfiapacbeemaaW.Ax
open Go
def Tys : Tb := [(2, ⟨.int .i64, [.int .i64], 8⟩),
  (3, ⟨.int .i64, [.int .i64], 8⟩),
  (4, ⟨.bool, [.bool], 1⟩),
  (5, ⟨.int .u8, [.int .u8], 1⟩),
  (7, ⟨.struct 4, [.int .i64, .int .i64, .bool, .int .u8], 24⟩),
  (9, ⟨.str, [.str], 16⟩),
  (12, ⟨.int .u64, [.int .u64], 8⟩),
  (13, ⟨.struct 2, [.str, .int .u64], 24⟩),
  (15, ⟨.other, [.junk], 8⟩),
  (16, ⟨.other, [.junk], 8⟩),
  (17, ⟨.other, [.junk], 8⟩),
  (18, ⟨.struct 1, [.junk], 8⟩),
  (21, ⟨.int .i32, [.int .i32], 4⟩),
  (22, ⟨.slice 3, [.nil], 24⟩),
  (23, ⟨.struct 1, [.nil], 24⟩),
  (24, ⟨.struct 1, [.nil], 24⟩),
  (26, ⟨.slice 9, [.nil], 24⟩),
  (28, ⟨.struct 1, [.nil], 24⟩),
  (47, ⟨.int .u64, [.int .u64], 8⟩),
  (48, ⟨.slice 5, [.nil], 24⟩),
  (49, ⟨.slice 22, [.nil], 24⟩),
  (63, ⟨.struct 4, [.junk, .junk, .junk, .str], 40⟩),
  (69, ⟨.int .u32, [.int .u32], 4⟩),
  (73, ⟨.other, [.junk], 8⟩),
  (76, ⟨.struct 11, [.int .u64, .int .u64, .int .u32, .int .u8, .int .u8, .int .u8, .int .u8, .junk, .junk, .int .i32, .int .i32], 48⟩)]
instance tysOk : TbOk Go.Proofs.Try.prog Tys := ⟨by kernel_rfl, by kernel_rfl⟩
end Go.Proofs.YtfnfiapacbeemaaW.Ax
