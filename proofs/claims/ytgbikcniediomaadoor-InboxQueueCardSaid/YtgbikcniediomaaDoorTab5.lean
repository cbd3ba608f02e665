/- The types of this seat's program. -/
import Derived.Test.YtgbikcniediomaaDoorSx24
import Derived.Test.YtgbikcniediomaaDoorProg
namespace Go.Proofs.YtgbikcniediomaaDoor
open Go.Sx
noncomputable def tab : Tab := [
  (2, ⟨.int .i64, 1, 8, [.v (.int .i64 0)], 0, ⟨encInt .i64⟩⟩),
  (3, ⟨.int .i64, 1, 8, [.v (.int .i64 0)], 0, ⟨encInt .i64⟩⟩),
  (4, ⟨.bool, 1, 1, [.v (.bool false)], 0, ⟨encBoo⟩⟩),
  (5, ⟨.int .u8, 1, 1, [.v (.int .u8 0)], 0, ⟨encInt .u8⟩⟩),
  (9, ⟨.string, 1, 16, [.v (.string .empty)], 0, ⟨encRec [.str]⟩⟩),
  (12, ⟨.int .u64, 1, 8, [.v (.int .u64 0)], 0, ⟨encInt .u64⟩⟩),
  (21, ⟨.int .i32, 1, 4, [.v (.int .i32 0)], 0, ⟨encInt .i32⟩⟩),
  (22, ⟨.sl 35, 1, 24, [.v (.slice none 0 0)], 0, ⟨encRec [.sl 11 [.int .i64, .int .u64, .int .u64, .int .u64, .ints .u64 4, .int .u64, .sl 1 [.int .u8], .sl 1 [.int .u8]]]⟩⟩),
  (25, ⟨.p 65, 1, 8, [.v (.pointer none)], 0, ⟨encRec []⟩⟩),
  (28, ⟨.int .u64, 1, 8, [.v (.int .u64 0)], 0, ⟨encInt .u64⟩⟩),
  (29, ⟨.arr 4 28, 4, 32, [.ints .u64 4 (List.replicate 4 0)], 2, ⟨encInts .u64 4⟩⟩),
  (30, ⟨.arr 4 28, 4, 32, [.ints .u64 4 (List.replicate 4 0)], 2, ⟨encInts .u64 4⟩⟩),
  (31, ⟨.sl 5, 1, 24, [.v (.slice none 0 0)], 0, ⟨encRec [.sl 1 [.int .u8]]⟩⟩),
  (32, ⟨.str [(0, 28), (1, 28), (2, 28), (3, 30), (7, 28), (8, 31)], 9, 88, [.v (.int .u64 0), .v (.int .u64 0), .v (.int .u64 0), .ints .u64 4 (List.replicate 4 0), .v (.int .u64 0), .v (.slice none 0 0)], 0, ⟨encRec [.int .u64, .int .u64, .int .u64, .ints .u64 4, .int .u64, .sl 1 [.int .u8]]⟩⟩),
  (33, ⟨.str [(0, 28), (1, 28), (2, 28), (3, 30), (7, 28), (8, 31)], 9, 88, [.v (.int .u64 0), .v (.int .u64 0), .v (.int .u64 0), .ints .u64 4 (List.replicate 4 0), .v (.int .u64 0), .v (.slice none 0 0)], 0, ⟨encRec [.int .u64, .int .u64, .int .u64, .ints .u64 4, .int .u64, .sl 1 [.int .u8]]⟩⟩),
  (34, ⟨.str [(0, 3), (1, 33), (10, 31)], 11, 120, [.v (.int .i64 0), .v (.int .u64 0), .v (.int .u64 0), .v (.int .u64 0), .ints .u64 4 (List.replicate 4 0), .v (.int .u64 0), .v (.slice none 0 0), .v (.slice none 0 0)], 0, ⟨encRec [.int .i64, .int .u64, .int .u64, .int .u64, .ints .u64 4, .int .u64, .sl 1 [.int .u8], .sl 1 [.int .u8]]⟩⟩),
  (35, ⟨.str [(0, 3), (1, 33), (10, 31)], 11, 120, [.v (.int .i64 0), .v (.int .u64 0), .v (.int .u64 0), .v (.int .u64 0), .ints .u64 4 (List.replicate 4 0), .v (.int .u64 0), .v (.slice none 0 0), .v (.slice none 0 0)], 0, ⟨encRec [.int .i64, .int .u64, .int .u64, .int .u64, .ints .u64 4, .int .u64, .sl 1 [.int .u8], .sl 1 [.int .u8]]⟩⟩),
  (38, ⟨.sl 53, 1, 24, [.v (.slice none 0 0)], 0, ⟨encRec [.sl 9 [.int .u64, .int .u64, .int .u64, .ints .u64 4, .int .u64, .sl 1 [.int .u8]]]⟩⟩),
  (39, ⟨.sl 31, 1, 24, [.v (.slice none 0 0)], 0, ⟨encRec [.sl 1 [.sl 1 [.int .u8]]]⟩⟩),
  (40, ⟨.str [(0, 38), (1, 39)], 2, 48, [.v (.slice none 0 0), .v (.slice none 0 0)], 0, ⟨encRec [.sl 9 [.int .u64, .int .u64, .int .u64, .ints .u64 4, .int .u64, .sl 1 [.int .u8]], .sl 1 [.sl 1 [.int .u8]]]⟩⟩),
  (41, ⟨.str [(0, 38), (1, 39)], 2, 48, [.v (.slice none 0 0), .v (.slice none 0 0)], 0, ⟨encRec [.sl 9 [.int .u64, .int .u64, .int .u64, .ints .u64 4, .int .u64, .sl 1 [.int .u8]], .sl 1 [.sl 1 [.int .u8]]]⟩⟩),
  (44, ⟨.arr 32 5, 32, 32, [.ints .u8 32 (List.replicate 32 0)], 2, ⟨encInts .u8 32⟩⟩),
  (45, ⟨.arr 32 5, 32, 32, [.ints .u8 32 (List.replicate 32 0)], 2, ⟨encInts .u8 32⟩⟩),
  (48, ⟨.sl 33, 1, 24, [.v (.slice none 0 0)], 0, ⟨encRec [.sl 9 [.int .u64, .int .u64, .int .u64, .ints .u64 4, .int .u64, .sl 1 [.int .u8]]]⟩⟩),
  (49, ⟨.sl 45, 1, 24, [.v (.slice none 0 0)], 0, ⟨encRec [.sl 32 [.ints .u8 32]]⟩⟩),
  (50, ⟨.int .i64, 1, 8, [.v (.int .i64 0)], 0, ⟨encInt .i64⟩⟩),
  (53, ⟨.str [(0, 28), (1, 28), (2, 28), (3, 30), (7, 28), (8, 31)], 9, 88, [.v (.int .u64 0), .v (.int .u64 0), .v (.int .u64 0), .ints .u64 4 (List.replicate 4 0), .v (.int .u64 0), .v (.slice none 0 0)], 0, ⟨encRec [.int .u64, .int .u64, .int .u64, .ints .u64 4, .int .u64, .sl 1 [.int .u8]]⟩⟩),
  (61, ⟨.chan 53, 1, 8, [.v (.chan none)], 0, ⟨encRec []⟩⟩),
  (62, ⟨.chan 31, 1, 8, [.v (.chan none)], 0, ⟨encRec []⟩⟩),
  (63, ⟨.sl 41, 1, 24, [.v (.slice none 0 0)], 0, ⟨encRec [.sl 2 [.sl 9 [.int .u64, .int .u64, .int .u64, .ints .u64 4, .int .u64, .sl 1 [.int .u8]], .sl 1 [.sl 1 [.int .u8]]]]⟩⟩),
  (64, ⟨.str [(0, 63), (1, 61), (2, 62), (3, 28)], 4, 48, [.v (.slice none 0 0), .v (.chan none), .v (.chan none), .v (.int .u64 0)], 0, ⟨encRec []⟩⟩),
  (65, ⟨.str [(0, 63), (1, 61), (2, 62), (3, 28)], 4, 48, [.v (.slice none 0 0), .v (.chan none), .v (.chan none), .v (.int .u64 0)], 0, ⟨encRec []⟩⟩),
  (76, ⟨.p 89, 1, 8, [.v (.pointer none)], 0, ⟨encRec []⟩⟩),
  (86, ⟨.str [(0, 31), (1, 4), (2, 50)], 3, 40, [.v (.slice none 0 0), .v (.bool false), .v (.int .i64 0)], 0, ⟨encRec [.sl 1 [.int .u8], .bool, .int .i64]⟩⟩),
  (87, ⟨.str [(0, 31), (1, 4), (2, 50)], 3, 40, [.v (.slice none 0 0), .v (.bool false), .v (.int .i64 0)], 0, ⟨encRec [.sl 1 [.int .u8], .bool, .int .i64]⟩⟩),
  (88, ⟨.str [(0, 87)], 3, 40, [.v (.slice none 0 0), .v (.bool false), .v (.int .i64 0)], 0, ⟨encRec [.sl 1 [.int .u8], .bool, .int .i64]⟩⟩),
  (89, ⟨.str [(0, 87)], 3, 40, [.v (.slice none 0 0), .v (.bool false), .v (.int .i64 0)], 0, ⟨encRec [.sl 1 [.int .u8], .bool, .int .i64]⟩⟩),
  (90, ⟨.sl 28, 1, 24, [.v (.slice none 0 0)], 0, ⟨encRec [.sl 1 [.int .u64]]⟩⟩),
  (93, ⟨.sl 30, 1, 24, [.v (.slice none 0 0)], 0, ⟨encRec [.sl 4 [.ints .u64 4]]⟩⟩),
  (98, ⟨.int .u32, 1, 4, [.v (.int .u32 0)], 0, ⟨encInt .u32⟩⟩),
  (99, ⟨.arr 8 98, 8, 32, [.ints .u32 8 (List.replicate 8 0)], 2, ⟨encInts .u32 8⟩⟩),
  (100, ⟨.arr 8 98, 8, 32, [.ints .u32 8 (List.replicate 8 0)], 2, ⟨encInts .u32 8⟩⟩),
  (102, ⟨.arr 128 5, 128, 128, [.ints .u8 128 (List.replicate 128 0)], 2, ⟨encInts .u8 128⟩⟩),
  (103, ⟨.p 87, 1, 8, [.v (.pointer none)], 0, ⟨encRec []⟩⟩),
  (104, ⟨.arr 85 5, 85, 85, [.ints .u8 85 (List.replicate 85 0)], 2, ⟨encInts .u8 85⟩⟩),
  (105, ⟨.p 100, 1, 8, [.v (.pointer none)], 0, ⟨encRec []⟩⟩),
  (106, ⟨.arr 64 98, 64, 256, [.ints .u32 64 (List.replicate 64 0)], 2, ⟨encInts .u32 64⟩⟩),
  (107, ⟨.int .u64, 1, 8, [.v (.int .u64 0)], 0, ⟨encInt .u64⟩⟩),
  (118, ⟨.p 5, 1, 8, [.v (.pointer none)], 0, ⟨encRec []⟩⟩)]
open Go in
theorem mixed : Tryd.prog.follows .mixedOrders = true := by kernel_rfl
open Go in
theorem tok : TOK Tryd.prog tab := tok_of (by kernel_rfl)
end Go.Proofs.YtgbikcniediomaaDoor
