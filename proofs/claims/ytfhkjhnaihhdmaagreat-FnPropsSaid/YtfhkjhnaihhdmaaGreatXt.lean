/- The types of the program that the walks meet. -/
import Derived.Test.YtfhkjhnaihhdmaaGreatProg
import Derived.Test.YtfhkjhnaihhdmaaGreatXB
import Derived.KernelRfl
namespace Go.Proofs.YtfhkjhnaihhdmaaGreatW.Ax
open Go
def Tys : Tb := [(2, ⟨.int .i64, [.int .i64], 8⟩),
  (3, ⟨.int .i64, [.int .i64], 8⟩),
  (4, ⟨.bool, [.bool], 1⟩),
  (5, ⟨.int .u8, [.int .u8], 1⟩),
  (7, ⟨.struct 4, [.int .i64, .int .i64, .bool, .int .u8], 24⟩),
  (9, ⟨.str, [.str], 16⟩),
  (12, ⟨.int .u64, [.int .u64], 8⟩),
  (13, ⟨.struct 2, [.str, .int .u64], 24⟩),
  (15, ⟨.other, [.junk], 8⟩),
  (16, ⟨.other, [.junk], 8⟩),
  (17, ⟨.other, [.junk], 8⟩),
  (18, ⟨.struct 1, [.junk], 8⟩),
  (21, ⟨.int .i32, [.int .i32], 4⟩),
  (22, ⟨.slice 5, [.nil], 24⟩),
  (24, ⟨.slice 3, [.nil], 24⟩),
  (25, ⟨.struct 1, [.nil], 24⟩),
  (26, ⟨.struct 1, [.nil], 24⟩),
  (27, ⟨.struct 4, [.int .i64, .nil, .nil, .int .i64], 64⟩),
  (28, ⟨.struct 4, [.int .i64, .nil, .nil, .int .i64], 64⟩),
  (64, ⟨.slice 9, [.nil], 24⟩),
  (71, ⟨.other, [.junk], 8⟩),
  (83, ⟨.other, [.junk], 8⟩),
  (109, ⟨.int .u64, [.int .u64], 8⟩),
  (110, ⟨.struct 3, [.nil, .int .i64, .int .i64], 40⟩),
  (111, ⟨.struct 3, [.nil, .int .i64, .int .i64], 40⟩),
  (117, ⟨.map 3 4, [.junk], 8⟩),
  (126, ⟨.slice 24, [.nil], 24⟩),
  (127, ⟨.map 3 3, [.junk], 8⟩),
  (134, ⟨.int .i64, [.int .i64], 8⟩),
  (141, ⟨.int .u32, [.int .u32], 4⟩),
  (143, ⟨.int .u64, [.int .u64], 8⟩),
  (148, ⟨.int .u64, [.int .u64], 8⟩),
  (152, ⟨.other, [.junk], 8⟩),
  (155, ⟨.other, [.junk], 8⟩),
  (159, ⟨.struct 4, [.junk, .junk, .junk, .str], 40⟩),
  (168, ⟨.other, [.junk], 8⟩),
  (171, ⟨.struct 11, [.int .u64, .int .u64, .int .u32, .int .u8, .int .u8, .int .u8, .int .u8, .junk, .junk, .int .i32, .int .i32], 48⟩)]
instance tysOk : TbOk Go.Proofs.Tryz.prog Tys := ⟨by kernel_rfl, by kernel_rfl⟩
end Go.Proofs.YtfhkjhnaihhdmaaGreatW.Ax
