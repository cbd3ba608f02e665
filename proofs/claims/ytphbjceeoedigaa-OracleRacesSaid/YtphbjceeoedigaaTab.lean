/- The types of this seat's program. -/
import Derived.Test.YtphbjceeoedigaaSx22
import Derived.Test.YtphbjceeoedigaaProg
namespace Go.Proofs.Ytphbjceeoedigaa
open Go.Sx
noncomputable def tab : Tab := [
  (2, ⟨.int .i64, 1, 8, [.v (.int .i64 0)], 0, ⟨encInt .i64⟩⟩),
  (3, ⟨.int .i64, 1, 8, [.v (.int .i64 0)], 0, ⟨encInt .i64⟩⟩),
  (4, ⟨.bool, 1, 1, [.v (.bool false)], 0, ⟨encBoo⟩⟩),
  (5, ⟨.int .u8, 1, 1, [.v (.int .u8 0)], 0, ⟨encInt .u8⟩⟩),
  (9, ⟨.string, 1, 16, [.v (.string .empty)], 0, ⟨encRec [.str]⟩⟩),
  (12, ⟨.int .u64, 1, 8, [.v (.int .u64 0)], 0, ⟨encInt .u64⟩⟩),
  (21, ⟨.int .i32, 1, 4, [.v (.int .i32 0)], 0, ⟨encInt .i32⟩⟩),
  (22, ⟨.arr 32 5, 32, 32, [.ints .u8 32 (List.replicate 32 0)], 2, ⟨encInts .u8 32⟩⟩),
  (23, ⟨.arr 32 5, 32, 32, [.ints .u8 32 (List.replicate 32 0)], 2, ⟨encInts .u8 32⟩⟩),
  (24, ⟨.str [(0, 3), (1, 3), (2, 23), (34, 23), (66, 23), (98, 4)], 99, 120, [.v (.int .i64 0), .v (.int .i64 0), .ints .u8 32 (List.replicate 32 0), .ints .u8 32 (List.replicate 32 0), .ints .u8 32 (List.replicate 32 0), .v (.bool false)], 3, ⟨encRec [.int .i64, .int .i64, .ints .u8 32, .ints .u8 32, .ints .u8 32, .bool]⟩⟩),
  (25, ⟨.str [(0, 3), (1, 3), (2, 23), (34, 23), (66, 23), (98, 4)], 99, 120, [.v (.int .i64 0), .v (.int .i64 0), .ints .u8 32 (List.replicate 32 0), .ints .u8 32 (List.replicate 32 0), .ints .u8 32 (List.replicate 32 0), .v (.bool false)], 3, ⟨encRec [.int .i64, .int .i64, .ints .u8 32, .ints .u8 32, .ints .u8 32, .bool]⟩⟩),
  (26, ⟨.str [(0, 3), (1, 3), (2, 23), (34, 23), (66, 23), (98, 4)], 99, 120, [.v (.int .i64 0), .v (.int .i64 0), .ints .u8 32 (List.replicate 32 0), .ints .u8 32 (List.replicate 32 0), .ints .u8 32 (List.replicate 32 0), .v (.bool false)], 3, ⟨encRec [.int .i64, .int .i64, .ints .u8 32, .ints .u8 32, .ints .u8 32, .bool]⟩⟩),
  (28, ⟨.int .i64, 1, 8, [.v (.int .i64 0)], 0, ⟨encInt .i64⟩⟩),
  (47, ⟨.sl 23, 1, 24, [.v (.slice none 0 0)], 0, ⟨encRec []⟩⟩),
  (51, ⟨.sl 4, 1, 24, [.v (.slice none 0 0)], 0, ⟨encRec []⟩⟩),
  (58, ⟨.arr 2 3, 2, 16, [.ints .i64 2 (List.replicate 2 0)], 2, ⟨encInts .i64 2⟩⟩),
  (59, ⟨.str [(0, 25), (99, 58), (101, 3), (102, 3)], 103, 152, [.v (.int .i64 0), .v (.int .i64 0), .ints .u8 32 (List.replicate 32 0), .ints .u8 32 (List.replicate 32 0), .ints .u8 32 (List.replicate 32 0), .v (.bool false), .ints .i64 2 (List.replicate 2 0), .v (.int .i64 0), .v (.int .i64 0)], 4, ⟨encRec [.int .i64, .int .i64, .ints .u8 32, .ints .u8 32, .ints .u8 32, .bool, .ints .i64 2, .int .i64, .int .i64]⟩⟩),
  (60, ⟨.str [(0, 25), (99, 58), (101, 3), (102, 3)], 103, 152, [.v (.int .i64 0), .v (.int .i64 0), .ints .u8 32 (List.replicate 32 0), .ints .u8 32 (List.replicate 32 0), .ints .u8 32 (List.replicate 32 0), .v (.bool false), .ints .i64 2 (List.replicate 2 0), .v (.int .i64 0), .v (.int .i64 0)], 4, ⟨encRec [.int .i64, .int .i64, .ints .u8 32, .ints .u8 32, .ints .u8 32, .bool, .ints .i64 2, .int .i64, .int .i64]⟩⟩),
  (61, ⟨.str [(0, 26), (99, 58), (101, 3), (102, 3)], 103, 152, [.v (.int .i64 0), .v (.int .i64 0), .ints .u8 32 (List.replicate 32 0), .ints .u8 32 (List.replicate 32 0), .ints .u8 32 (List.replicate 32 0), .v (.bool false), .ints .i64 2 (List.replicate 2 0), .v (.int .i64 0), .v (.int .i64 0)], 4, ⟨encRec [.int .i64, .int .i64, .ints .u8 32, .ints .u8 32, .ints .u8 32, .bool, .ints .i64 2, .int .i64, .int .i64]⟩⟩),
  (62, ⟨.str [(0, 26), (99, 58), (101, 3), (102, 3)], 103, 152, [.v (.int .i64 0), .v (.int .i64 0), .ints .u8 32 (List.replicate 32 0), .ints .u8 32 (List.replicate 32 0), .ints .u8 32 (List.replicate 32 0), .v (.bool false), .ints .i64 2 (List.replicate 2 0), .v (.int .i64 0), .v (.int .i64 0)], 4, ⟨encRec [.int .i64, .int .i64, .ints .u8 32, .ints .u8 32, .ints .u8 32, .bool, .ints .i64 2, .int .i64, .int .i64]⟩⟩),
  (69, ⟨.sl 3, 1, 24, [.v (.slice none 0 0)], 0, ⟨encRec []⟩⟩),
  (74, ⟨.p 102, 1, 8, [.v (.pointer none)], 0, ⟨encRec []⟩⟩),
  (79, ⟨.int .u64, 1, 8, [.v (.int .u64 0)], 0, ⟨encInt .u64⟩⟩),
  (81, ⟨.str [(0, 3), (1, 3), (2, 3), (3, 3), (4, 23), (36, 23), (68, 79)], 69, 104, [.v (.int .i64 0), .v (.int .i64 0), .v (.int .i64 0), .v (.int .i64 0), .ints .u8 32 (List.replicate 32 0), .ints .u8 32 (List.replicate 32 0), .v (.int .u64 0)], 3, ⟨encRec [.int .i64, .int .i64, .int .i64, .int .i64, .ints .u8 32, .ints .u8 32, .int .u64]⟩⟩),
  (82, ⟨.str [(0, 3), (1, 3), (2, 3), (3, 3), (4, 23), (36, 23), (68, 79)], 69, 104, [.v (.int .i64 0), .v (.int .i64 0), .v (.int .i64 0), .v (.int .i64 0), .ints .u8 32 (List.replicate 32 0), .ints .u8 32 (List.replicate 32 0), .v (.int .u64 0)], 3, ⟨encRec [.int .i64, .int .i64, .int .i64, .int .i64, .ints .u8 32, .ints .u8 32, .int .u64]⟩⟩),
  (87, ⟨.sl 90, 1, 24, [.v (.slice none 0 0)], 0, ⟨encRec []⟩⟩),
  (89, ⟨.str [(0, 79), (1, 3)], 2, 16, [.v (.int .u64 0), .v (.int .i64 0)], 2, ⟨encRec [.int .u64, .int .i64]⟩⟩),
  (90, ⟨.str [(0, 79), (1, 3)], 2, 16, [.v (.int .u64 0), .v (.int .i64 0)], 2, ⟨encRec [.int .u64, .int .i64]⟩⟩),
  (95, ⟨.p 62, 1, 8, [.v (.pointer none)], 0, ⟨encRec []⟩⟩),
  (99, ⟨.sl 82, 1, 24, [.v (.slice none 0 0)], 0, ⟨encRec []⟩⟩),
  (100, ⟨.sl 106, 1, 24, [.v (.slice none 0 0)], 0, ⟨encRec []⟩⟩),
  (101, ⟨.str [(0, 3), (1, 3), (2, 3), (3, 3), (4, 23), (36, 99), (37, 100), (38, 87)], 39, 136, [.v (.int .i64 0), .v (.int .i64 0), .v (.int .i64 0), .v (.int .i64 0), .ints .u8 32 (List.replicate 32 0), .v (.slice none 0 0), .v (.slice none 0 0), .v (.slice none 0 0)], 0, ⟨encRec []⟩⟩),
  (102, ⟨.str [(0, 3), (1, 3), (2, 3), (3, 3), (4, 23), (36, 99), (37, 100), (38, 87)], 39, 136, [.v (.int .i64 0), .v (.int .i64 0), .v (.int .i64 0), .v (.int .i64 0), .ints .u8 32 (List.replicate 32 0), .v (.slice none 0 0), .v (.slice none 0 0), .v (.slice none 0 0)], 0, ⟨encRec []⟩⟩),
  (103, ⟨.p 82, 1, 8, [.v (.pointer none)], 0, ⟨encRec []⟩⟩),
  (105, ⟨.str [(0, 3), (1, 79), (2, 62), (105, 4)], 106, 176, [.v (.int .i64 0), .v (.int .u64 0), .v (.int .i64 0), .v (.int .i64 0), .ints .u8 32 (List.replicate 32 0), .ints .u8 32 (List.replicate 32 0), .ints .u8 32 (List.replicate 32 0), .v (.bool false), .ints .i64 2 (List.replicate 2 0), .v (.int .i64 0), .v (.int .i64 0), .v (.bool false)], 5, ⟨encRec [.int .i64, .int .u64, .int .i64, .int .i64, .ints .u8 32, .ints .u8 32, .ints .u8 32, .bool, .ints .i64 2, .int .i64, .int .i64, .bool]⟩⟩),
  (106, ⟨.str [(0, 3), (1, 79), (2, 62), (105, 4)], 106, 176, [.v (.int .i64 0), .v (.int .u64 0), .v (.int .i64 0), .v (.int .i64 0), .ints .u8 32 (List.replicate 32 0), .ints .u8 32 (List.replicate 32 0), .ints .u8 32 (List.replicate 32 0), .v (.bool false), .ints .i64 2 (List.replicate 2 0), .v (.int .i64 0), .v (.int .i64 0), .v (.bool false)], 5, ⟨encRec [.int .i64, .int .u64, .int .i64, .int .i64, .ints .u8 32, .ints .u8 32, .ints .u8 32, .bool, .ints .i64 2, .int .i64, .int .i64, .bool]⟩⟩),
  (117, ⟨.int .u32, 1, 4, [.v (.int .u32 0)], 0, ⟨encInt .u32⟩⟩),
  (121, ⟨.p 5, 1, 8, [.v (.pointer none)], 0, ⟨encRec []⟩⟩)]
open Go in
theorem mixed : Try.prog.follows .mixedOrders = true := by kernel_rfl
open Go in
theorem tok : TOK Try.prog tab := tok_of (by kernel_rfl)
end Go.Proofs.Ytphbjceeoedigaa
