/- The types of this seat's program. -/
import Derived.Test.YtjdlefkpoggocaaSx24
import Derived.Test.YtjdlefkpoggocaaProg
namespace Go.Proofs.Ytjdlefkpoggocaa
open Go.Sx
noncomputable def tab : Tab := [
  (2, ⟨.int .i64, 1, 8, [.v (.int .i64 0)], 0, ⟨encInt .i64⟩⟩),
  (3, ⟨.int .i64, 1, 8, [.v (.int .i64 0)], 0, ⟨encInt .i64⟩⟩),
  (4, ⟨.bool, 1, 1, [.v (.bool false)], 0, ⟨encBoo⟩⟩),
  (5, ⟨.int .u8, 1, 1, [.v (.int .u8 0)], 0, ⟨encInt .u8⟩⟩),
  (9, ⟨.string, 1, 16, [.v (.string .empty)], 0, ⟨encRec [.str]⟩⟩),
  (12, ⟨.int .u64, 1, 8, [.v (.int .u64 0)], 0, ⟨encInt .u64⟩⟩),
  (21, ⟨.int .i32, 1, 4, [.v (.int .i32 0)], 0, ⟨encInt .i32⟩⟩),
  (22, ⟨.int .u64, 1, 8, [.v (.int .u64 0)], 0, ⟨encInt .u64⟩⟩),
  (23, ⟨.arr 4 22, 4, 32, [.ints .u64 4 (List.replicate 4 0)], 2, ⟨encInts .u64 4⟩⟩),
  (24, ⟨.arr 4 22, 4, 32, [.ints .u64 4 (List.replicate 4 0)], 2, ⟨encInts .u64 4⟩⟩),
  (25, ⟨.int .i64, 1, 8, [.v (.int .i64 0)], 0, ⟨encInt .i64⟩⟩),
  (39, ⟨.sl 5, 1, 24, [.v (.slice none 0 0)], 0, ⟨encRec [.sl 1 [.int .u8]]⟩⟩),
  (52, ⟨.p 80, 1, 8, [.v (.pointer none)], 0, ⟨encRec []⟩⟩),
  (57, ⟨.sl 64, 1, 24, [.v (.slice none 0 0)], 0, ⟨encRec [.sl 5 [.int .i64, .sl 1 [.int .u64], .sl 4 [.ints .u64 4], .sl 32 [.ints .u8 32], .sl 1 [.sl 1 [.int .u8]]]]⟩⟩),
  (59, ⟨.sl 22, 1, 24, [.v (.slice none 0 0)], 0, ⟨encRec [.sl 1 [.int .u64]]⟩⟩),
  (60, ⟨.sl 24, 1, 24, [.v (.slice none 0 0)], 0, ⟨encRec [.sl 4 [.ints .u64 4]]⟩⟩),
  (61, ⟨.sl 72, 1, 24, [.v (.slice none 0 0)], 0, ⟨encRec [.sl 32 [.ints .u8 32]]⟩⟩),
  (62, ⟨.sl 39, 1, 24, [.v (.slice none 0 0)], 0, ⟨encRec [.sl 1 [.sl 1 [.int .u8]]]⟩⟩),
  (63, ⟨.str [(0, 3), (1, 59), (2, 60), (3, 61), (4, 62)], 5, 104, [.v (.int .i64 0), .v (.slice none 0 0), .v (.slice none 0 0), .v (.slice none 0 0), .v (.slice none 0 0)], 0, ⟨encRec [.int .i64, .sl 1 [.int .u64], .sl 4 [.ints .u64 4], .sl 32 [.ints .u8 32], .sl 1 [.sl 1 [.int .u8]]]⟩⟩),
  (64, ⟨.str [(0, 3), (1, 59), (2, 60), (3, 61), (4, 62)], 5, 104, [.v (.int .i64 0), .v (.slice none 0 0), .v (.slice none 0 0), .v (.slice none 0 0), .v (.slice none 0 0)], 0, ⟨encRec [.int .i64, .sl 1 [.int .u64], .sl 4 [.ints .u64 4], .sl 32 [.ints .u8 32], .sl 1 [.sl 1 [.int .u8]]]⟩⟩),
  (67, ⟨.p 81, 1, 8, [.v (.pointer none)], 0, ⟨encRec []⟩⟩),
  (71, ⟨.arr 32 5, 32, 32, [.ints .u8 32 (List.replicate 32 0)], 2, ⟨encInts .u8 32⟩⟩),
  (72, ⟨.arr 32 5, 32, 32, [.ints .u8 32 (List.replicate 32 0)], 2, ⟨encInts .u8 32⟩⟩),
  (77, ⟨.str [(0, 39), (1, 4), (2, 25)], 3, 40, [.v (.slice none 0 0), .v (.bool false), .v (.int .i64 0)], 0, ⟨encRec [.sl 1 [.int .u8], .bool, .int .i64]⟩⟩),
  (78, ⟨.str [(0, 39), (1, 4), (2, 25)], 3, 40, [.v (.slice none 0 0), .v (.bool false), .v (.int .i64 0)], 0, ⟨encRec [.sl 1 [.int .u8], .bool, .int .i64]⟩⟩),
  (79, ⟨.str [(0, 78)], 3, 40, [.v (.slice none 0 0), .v (.bool false), .v (.int .i64 0)], 0, ⟨encRec [.sl 1 [.int .u8], .bool, .int .i64]⟩⟩),
  (80, ⟨.str [(0, 78)], 3, 40, [.v (.slice none 0 0), .v (.bool false), .v (.int .i64 0)], 0, ⟨encRec [.sl 1 [.int .u8], .bool, .int .i64]⟩⟩),
  (81, ⟨.str [(0, 78)], 3, 40, [.v (.slice none 0 0), .v (.bool false), .v (.int .i64 0)], 0, ⟨encRec [.sl 1 [.int .u8], .bool, .int .i64]⟩⟩),
  (83, ⟨.arr 8 22, 8, 64, [.ints .u64 8 (List.replicate 8 0)], 2, ⟨encInts .u64 8⟩⟩),
  (88, ⟨.arr 16 22, 16, 128, [.ints .u64 16 (List.replicate 16 0)], 2, ⟨encInts .u64 16⟩⟩),
  (90, ⟨.int .u64, 1, 8, [.v (.int .u64 0)], 0, ⟨encInt .u64⟩⟩),
  (108, ⟨.p 78, 1, 8, [.v (.pointer none)], 0, ⟨encRec []⟩⟩),
  (115, ⟨.int .u32, 1, 4, [.v (.int .u32 0)], 0, ⟨encInt .u32⟩⟩),
  (119, ⟨.p 5, 1, 8, [.v (.pointer none)], 0, ⟨encRec []⟩⟩)]
open Go in
theorem mixed : Try.prog.follows .mixedOrders = true := by kernel_rfl
open Go in
theorem tok : TOK Try.prog tab := tok_of (by kernel_rfl)
end Go.Proofs.Ytjdlefkpoggocaa
