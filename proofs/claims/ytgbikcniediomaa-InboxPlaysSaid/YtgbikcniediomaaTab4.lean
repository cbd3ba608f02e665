/- The types of this seat's program. -/
import Derived.Test.YtgbikcniediomaaSx24
import Derived.Test.YtgbikcniediomaaProg
namespace Go.Proofs.Ytgbikcniediomaa
open Go.Sx
noncomputable def tab : Tab := [
  (2, ⟨.int .i64, 1, 8, [.v (.int .i64 0)], 0, ⟨encInt .i64⟩⟩),
  (3, ⟨.int .i64, 1, 8, [.v (.int .i64 0)], 0, ⟨encInt .i64⟩⟩),
  (4, ⟨.bool, 1, 1, [.v (.bool false)], 0, ⟨encBoo⟩⟩),
  (5, ⟨.int .u8, 1, 1, [.v (.int .u8 0)], 0, ⟨encInt .u8⟩⟩),
  (9, ⟨.string, 1, 16, [.v (.string .empty)], 0, ⟨encRec [.str]⟩⟩),
  (12, ⟨.int .u64, 1, 8, [.v (.int .u64 0)], 0, ⟨encInt .u64⟩⟩),
  (21, ⟨.int .i32, 1, 4, [.v (.int .i32 0)], 0, ⟨encInt .i32⟩⟩),
  (22, ⟨.sl 91, 1, 24, [.v (.slice none 0 0)], 0, ⟨encRec [.sl 2 [.int .i64, .int .u64]]⟩⟩),
  (23, ⟨.int .u64, 1, 8, [.v (.int .u64 0)], 0, ⟨encInt .u64⟩⟩),
  (24, ⟨.sl 23, 1, 24, [.v (.slice none 0 0)], 0, ⟨encRec [.sl 1 [.int .u64]]⟩⟩),
  (25, ⟨.str [(0, 23), (1, 23), (2, 24)], 3, 40, [.v (.int .u64 0), .v (.int .u64 0), .v (.slice none 0 0)], 0, ⟨encRec [.int .u64, .int .u64, .sl 1 [.int .u64]]⟩⟩),
  (26, ⟨.str [(0, 23), (1, 23), (2, 24)], 3, 40, [.v (.int .u64 0), .v (.int .u64 0), .v (.slice none 0 0)], 0, ⟨encRec [.int .u64, .int .u64, .sl 1 [.int .u64]]⟩⟩),
  (28, ⟨.int .i64, 1, 8, [.v (.int .i64 0)], 0, ⟨encInt .i64⟩⟩),
  (29, ⟨.arr 16 23, 16, 128, [.ints .u64 16 (List.replicate 16 0)], 2, ⟨encInts .u64 16⟩⟩),
  (30, ⟨.str [(0, 3), (1, 23), (2, 3), (3, 28), (4, 24), (5, 29)], 21, 184, [.v (.int .i64 0), .v (.int .u64 0), .v (.int .i64 0), .v (.int .i64 0), .v (.slice none 0 0), .ints .u64 16 (List.replicate 16 0)], 0, ⟨encRec [.int .i64, .int .u64, .int .i64, .int .i64, .sl 1 [.int .u64], .ints .u64 16]⟩⟩),
  (31, ⟨.str [(0, 3), (1, 23), (2, 3), (3, 28), (4, 24), (5, 29)], 21, 184, [.v (.int .i64 0), .v (.int .u64 0), .v (.int .i64 0), .v (.int .i64 0), .v (.slice none 0 0), .ints .u64 16 (List.replicate 16 0)], 0, ⟨encRec [.int .i64, .int .u64, .int .i64, .int .i64, .sl 1 [.int .u64], .ints .u64 16]⟩⟩),
  (34, ⟨.sl 88, 1, 24, [.v (.slice none 0 0)], 0, ⟨encRec [.sl 2 [.int .i64, .int .u64]]⟩⟩),
  (36, ⟨.str [(0, 23), (1, 23), (2, 24)], 3, 40, [.v (.int .u64 0), .v (.int .u64 0), .v (.slice none 0 0)], 0, ⟨encRec [.int .u64, .int .u64, .sl 1 [.int .u64]]⟩⟩),
  (42, ⟨.sl 60, 1, 24, [.v (.slice none 0 0)], 0, ⟨encRec [.sl 11 [.int .i64, .int .u64, .int .u64, .int .u64, .ints .u64 4, .int .u64, .sl 1 [.int .u8], .sl 1 [.int .u8]]]⟩⟩),
  (44, ⟨.p 85, 1, 8, [.v (.pointer none)], 0, ⟨encRec []⟩⟩),
  (46, ⟨.p 53, 1, 8, [.v (.pointer none)], 0, ⟨encRec []⟩⟩),
  (47, ⟨.sl 51, 1, 24, [.v (.slice none 0 0)], 0, ⟨encRec [.sl 2 [.sl 9 [.int .u64, .int .u64, .int .u64, .ints .u64 4, .int .u64, .sl 1 [.int .u8]], .sl 1 [.sl 1 [.int .u8]]]]⟩⟩),
  (48, ⟨.sl 58, 1, 24, [.v (.slice none 0 0)], 0, ⟨encRec [.sl 9 [.int .u64, .int .u64, .int .u64, .ints .u64 4, .int .u64, .sl 1 [.int .u8]]]⟩⟩),
  (49, ⟨.sl 56, 1, 24, [.v (.slice none 0 0)], 0, ⟨encRec [.sl 1 [.sl 1 [.int .u8]]]⟩⟩),
  (50, ⟨.str [(0, 48), (1, 49)], 2, 48, [.v (.slice none 0 0), .v (.slice none 0 0)], 0, ⟨encRec [.sl 9 [.int .u64, .int .u64, .int .u64, .ints .u64 4, .int .u64, .sl 1 [.int .u8]], .sl 1 [.sl 1 [.int .u8]]]⟩⟩),
  (51, ⟨.str [(0, 48), (1, 49)], 2, 48, [.v (.slice none 0 0), .v (.slice none 0 0)], 0, ⟨encRec [.sl 9 [.int .u64, .int .u64, .int .u64, .ints .u64 4, .int .u64, .sl 1 [.int .u8]], .sl 1 [.sl 1 [.int .u8]]]⟩⟩),
  (52, ⟨.str [(0, 47), (1, 51), (3, 23)], 4, 80, [.v (.slice none 0 0), .v (.slice none 0 0), .v (.slice none 0 0), .v (.int .u64 0)], 0, ⟨encRec [.sl 2 [.sl 9 [.int .u64, .int .u64, .int .u64, .ints .u64 4, .int .u64, .sl 1 [.int .u8]], .sl 1 [.sl 1 [.int .u8]]], .sl 9 [.int .u64, .int .u64, .int .u64, .ints .u64 4, .int .u64, .sl 1 [.int .u8]], .sl 1 [.sl 1 [.int .u8]], .int .u64]⟩⟩),
  (53, ⟨.str [(0, 47), (1, 51), (3, 23)], 4, 80, [.v (.slice none 0 0), .v (.slice none 0 0), .v (.slice none 0 0), .v (.int .u64 0)], 0, ⟨encRec [.sl 2 [.sl 9 [.int .u64, .int .u64, .int .u64, .ints .u64 4, .int .u64, .sl 1 [.int .u8]], .sl 1 [.sl 1 [.int .u8]]], .sl 9 [.int .u64, .int .u64, .int .u64, .ints .u64 4, .int .u64, .sl 1 [.int .u8]], .sl 1 [.sl 1 [.int .u8]], .int .u64]⟩⟩),
  (54, ⟨.arr 4 23, 4, 32, [.ints .u64 4 (List.replicate 4 0)], 2, ⟨encInts .u64 4⟩⟩),
  (55, ⟨.arr 4 23, 4, 32, [.ints .u64 4 (List.replicate 4 0)], 2, ⟨encInts .u64 4⟩⟩),
  (56, ⟨.sl 5, 1, 24, [.v (.slice none 0 0)], 0, ⟨encRec [.sl 1 [.int .u8]]⟩⟩),
  (57, ⟨.str [(0, 23), (1, 23), (2, 23), (3, 55), (7, 23), (8, 56)], 9, 88, [.v (.int .u64 0), .v (.int .u64 0), .v (.int .u64 0), .ints .u64 4 (List.replicate 4 0), .v (.int .u64 0), .v (.slice none 0 0)], 0, ⟨encRec [.int .u64, .int .u64, .int .u64, .ints .u64 4, .int .u64, .sl 1 [.int .u8]]⟩⟩),
  (58, ⟨.str [(0, 23), (1, 23), (2, 23), (3, 55), (7, 23), (8, 56)], 9, 88, [.v (.int .u64 0), .v (.int .u64 0), .v (.int .u64 0), .ints .u64 4 (List.replicate 4 0), .v (.int .u64 0), .v (.slice none 0 0)], 0, ⟨encRec [.int .u64, .int .u64, .int .u64, .ints .u64 4, .int .u64, .sl 1 [.int .u8]]⟩⟩),
  (59, ⟨.str [(0, 3), (1, 58), (10, 56)], 11, 120, [.v (.int .i64 0), .v (.int .u64 0), .v (.int .u64 0), .v (.int .u64 0), .ints .u64 4 (List.replicate 4 0), .v (.int .u64 0), .v (.slice none 0 0), .v (.slice none 0 0)], 0, ⟨encRec [.int .i64, .int .u64, .int .u64, .int .u64, .ints .u64 4, .int .u64, .sl 1 [.int .u8], .sl 1 [.int .u8]]⟩⟩),
  (60, ⟨.str [(0, 3), (1, 58), (10, 56)], 11, 120, [.v (.int .i64 0), .v (.int .u64 0), .v (.int .u64 0), .v (.int .u64 0), .ints .u64 4 (List.replicate 4 0), .v (.int .u64 0), .v (.slice none 0 0), .v (.slice none 0 0)], 0, ⟨encRec [.int .i64, .int .u64, .int .u64, .int .u64, .ints .u64 4, .int .u64, .sl 1 [.int .u8], .sl 1 [.int .u8]]⟩⟩),
  (61, ⟨.str [(0, 23), (1, 23), (2, 23), (3, 55), (7, 23), (8, 56)], 9, 88, [.v (.int .u64 0), .v (.int .u64 0), .v (.int .u64 0), .ints .u64 4 (List.replicate 4 0), .v (.int .u64 0), .v (.slice none 0 0)], 0, ⟨encRec [.int .u64, .int .u64, .int .u64, .ints .u64 4, .int .u64, .sl 1 [.int .u8]]⟩⟩),
  (75, ⟨.sl 61, 1, 24, [.v (.slice none 0 0)], 0, ⟨encRec [.sl 9 [.int .u64, .int .u64, .int .u64, .ints .u64 4, .int .u64, .sl 1 [.int .u8]]]⟩⟩),
  (76, ⟨.str [(0, 75), (1, 49)], 2, 48, [.v (.slice none 0 0), .v (.slice none 0 0)], 0, ⟨encRec [.sl 9 [.int .u64, .int .u64, .int .u64, .ints .u64 4, .int .u64, .sl 1 [.int .u8]], .sl 1 [.sl 1 [.int .u8]]]⟩⟩),
  (77, ⟨.str [(0, 75), (1, 49)], 2, 48, [.v (.slice none 0 0), .v (.slice none 0 0)], 0, ⟨encRec [.sl 9 [.int .u64, .int .u64, .int .u64, .ints .u64 4, .int .u64, .sl 1 [.int .u8]], .sl 1 [.sl 1 [.int .u8]]]⟩⟩),
  (81, ⟨.sl 77, 1, 24, [.v (.slice none 0 0)], 0, ⟨encRec [.sl 2 [.sl 9 [.int .u64, .int .u64, .int .u64, .ints .u64 4, .int .u64, .sl 1 [.int .u8]], .sl 1 [.sl 1 [.int .u8]]]]⟩⟩),
  (82, ⟨.chan 61, 1, 8, [.v (.chan none)], 0, ⟨encRec []⟩⟩),
  (83, ⟨.chan 56, 1, 8, [.v (.chan none)], 0, ⟨encRec []⟩⟩),
  (84, ⟨.str [(0, 81), (1, 82), (2, 83), (3, 23)], 4, 48, [.v (.slice none 0 0), .v (.chan none), .v (.chan none), .v (.int .u64 0)], 0, ⟨encRec []⟩⟩),
  (85, ⟨.str [(0, 81), (1, 82), (2, 83), (3, 23)], 4, 48, [.v (.slice none 0 0), .v (.chan none), .v (.chan none), .v (.int .u64 0)], 0, ⟨encRec []⟩⟩),
  (87, ⟨.str [(0, 3), (1, 23)], 2, 16, [.v (.int .i64 0), .v (.int .u64 0)], 2, ⟨encRec [.int .i64, .int .u64]⟩⟩),
  (88, ⟨.str [(0, 3), (1, 23)], 2, 16, [.v (.int .i64 0), .v (.int .u64 0)], 2, ⟨encRec [.int .i64, .int .u64]⟩⟩),
  (91, ⟨.str [(0, 3), (1, 23)], 2, 16, [.v (.int .i64 0), .v (.int .u64 0)], 2, ⟨encRec [.int .i64, .int .u64]⟩⟩),
  (121, ⟨.int .u32, 1, 4, [.v (.int .u32 0)], 0, ⟨encInt .u32⟩⟩),
  (125, ⟨.p 5, 1, 8, [.v (.pointer none)], 0, ⟨encRec []⟩⟩)]
open Go in
theorem mixed : Try.prog.follows .mixedOrders = true := by kernel_rfl
open Go in
theorem tok : TOK Try.prog tab := tok_of (by kernel_rfl)
end Go.Proofs.Ytgbikcniediomaa
