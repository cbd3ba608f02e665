/- The types of this seat's program. -/
import Derived.Test.YtphbjceeoedigaaSx20
import Derived.Test.YtphbjceeoedigaaProg
namespace Go.Proofs.Ytphbjceeoedigaa
open Go.Sx
noncomputable def tab : Tab := [
  (2, ⟨.int .i64, 1, 8, [.v (.int .i64 0)], 0⟩),
  (3, ⟨.int .i64, 1, 8, [.v (.int .i64 0)], 0⟩),
  (4, ⟨.bool, 1, 1, [.v (.bool false)], 0⟩),
  (5, ⟨.int .u8, 1, 1, [.v (.int .u8 0)], 0⟩),
  (9, ⟨.string, 1, 16, [.v (.string .empty)], 0⟩),
  (12, ⟨.int .u64, 1, 8, [.v (.int .u64 0)], 0⟩),
  (21, ⟨.int .i32, 1, 4, [.v (.int .i32 0)], 0⟩),
  (22, ⟨.arr 32 5, 32, 32, [.ints .u8 32 (List.replicate 32 0)], 2⟩),
  (23, ⟨.arr 32 5, 32, 32, [.ints .u8 32 (List.replicate 32 0)], 2⟩),
  (24, ⟨.str [(0, 3), (1, 3), (2, 23), (34, 23), (66, 23), (98, 4)], 99, 120, [.v (.int .i64 0), .v (.int .i64 0), .ints .u8 32 (List.replicate 32 0), .ints .u8 32 (List.replicate 32 0), .ints .u8 32 (List.replicate 32 0), .v (.bool false)], 3⟩),
  (25, ⟨.str [(0, 3), (1, 3), (2, 23), (34, 23), (66, 23), (98, 4)], 99, 120, [.v (.int .i64 0), .v (.int .i64 0), .ints .u8 32 (List.replicate 32 0), .ints .u8 32 (List.replicate 32 0), .ints .u8 32 (List.replicate 32 0), .v (.bool false)], 3⟩),
  (26, ⟨.str [(0, 3), (1, 3), (2, 23), (34, 23), (66, 23), (98, 4)], 99, 120, [.v (.int .i64 0), .v (.int .i64 0), .ints .u8 32 (List.replicate 32 0), .ints .u8 32 (List.replicate 32 0), .ints .u8 32 (List.replicate 32 0), .v (.bool false)], 3⟩),
  (28, ⟨.int .i64, 1, 8, [.v (.int .i64 0)], 0⟩),
  (47, ⟨.sl 23, 1, 24, [.v (.slice none 0 0)], 0⟩),
  (51, ⟨.sl 4, 1, 24, [.v (.slice none 0 0)], 0⟩),
  (58, ⟨.arr 2 3, 2, 16, [.ints .i64 2 (List.replicate 2 0)], 2⟩),
  (59, ⟨.str [(0, 25), (99, 58), (101, 3), (102, 3)], 103, 152, [.v (.int .i64 0), .v (.int .i64 0), .ints .u8 32 (List.replicate 32 0), .ints .u8 32 (List.replicate 32 0), .ints .u8 32 (List.replicate 32 0), .v (.bool false), .ints .i64 2 (List.replicate 2 0), .v (.int .i64 0), .v (.int .i64 0)], 4⟩),
  (60, ⟨.str [(0, 25), (99, 58), (101, 3), (102, 3)], 103, 152, [.v (.int .i64 0), .v (.int .i64 0), .ints .u8 32 (List.replicate 32 0), .ints .u8 32 (List.replicate 32 0), .ints .u8 32 (List.replicate 32 0), .v (.bool false), .ints .i64 2 (List.replicate 2 0), .v (.int .i64 0), .v (.int .i64 0)], 4⟩),
  (61, ⟨.str [(0, 26), (99, 58), (101, 3), (102, 3)], 103, 152, [.v (.int .i64 0), .v (.int .i64 0), .ints .u8 32 (List.replicate 32 0), .ints .u8 32 (List.replicate 32 0), .ints .u8 32 (List.replicate 32 0), .v (.bool false), .ints .i64 2 (List.replicate 2 0), .v (.int .i64 0), .v (.int .i64 0)], 4⟩),
  (62, ⟨.str [(0, 26), (99, 58), (101, 3), (102, 3)], 103, 152, [.v (.int .i64 0), .v (.int .i64 0), .ints .u8 32 (List.replicate 32 0), .ints .u8 32 (List.replicate 32 0), .ints .u8 32 (List.replicate 32 0), .v (.bool false), .ints .i64 2 (List.replicate 2 0), .v (.int .i64 0), .v (.int .i64 0)], 4⟩),
  (69, ⟨.sl 3, 1, 24, [.v (.slice none 0 0)], 0⟩),
  (74, ⟨.p 102, 1, 8, [.v (.pointer none)], 0⟩),
  (79, ⟨.int .u64, 1, 8, [.v (.int .u64 0)], 0⟩),
  (81, ⟨.str [(0, 3), (1, 3), (2, 3), (3, 3), (4, 23), (36, 23), (68, 79)], 69, 104, [.v (.int .i64 0), .v (.int .i64 0), .v (.int .i64 0), .v (.int .i64 0), .ints .u8 32 (List.replicate 32 0), .ints .u8 32 (List.replicate 32 0), .v (.int .u64 0)], 3⟩),
  (82, ⟨.str [(0, 3), (1, 3), (2, 3), (3, 3), (4, 23), (36, 23), (68, 79)], 69, 104, [.v (.int .i64 0), .v (.int .i64 0), .v (.int .i64 0), .v (.int .i64 0), .ints .u8 32 (List.replicate 32 0), .ints .u8 32 (List.replicate 32 0), .v (.int .u64 0)], 3⟩),
  (87, ⟨.sl 90, 1, 24, [.v (.slice none 0 0)], 0⟩),
  (89, ⟨.str [(0, 79), (1, 3)], 2, 16, [.v (.int .u64 0), .v (.int .i64 0)], 2⟩),
  (90, ⟨.str [(0, 79), (1, 3)], 2, 16, [.v (.int .u64 0), .v (.int .i64 0)], 2⟩),
  (95, ⟨.p 62, 1, 8, [.v (.pointer none)], 0⟩),
  (99, ⟨.sl 82, 1, 24, [.v (.slice none 0 0)], 0⟩),
  (100, ⟨.sl 106, 1, 24, [.v (.slice none 0 0)], 0⟩),
  (101, ⟨.str [(0, 3), (1, 3), (2, 3), (3, 3), (4, 23), (36, 99), (37, 100), (38, 87)], 39, 136, [.v (.int .i64 0), .v (.int .i64 0), .v (.int .i64 0), .v (.int .i64 0), .ints .u8 32 (List.replicate 32 0), .v (.slice none 0 0), .v (.slice none 0 0), .v (.slice none 0 0)], 0⟩),
  (102, ⟨.str [(0, 3), (1, 3), (2, 3), (3, 3), (4, 23), (36, 99), (37, 100), (38, 87)], 39, 136, [.v (.int .i64 0), .v (.int .i64 0), .v (.int .i64 0), .v (.int .i64 0), .ints .u8 32 (List.replicate 32 0), .v (.slice none 0 0), .v (.slice none 0 0), .v (.slice none 0 0)], 0⟩),
  (103, ⟨.p 82, 1, 8, [.v (.pointer none)], 0⟩),
  (105, ⟨.str [(0, 3), (1, 79), (2, 62), (105, 4)], 106, 176, [.v (.int .i64 0), .v (.int .u64 0), .v (.int .i64 0), .v (.int .i64 0), .ints .u8 32 (List.replicate 32 0), .ints .u8 32 (List.replicate 32 0), .ints .u8 32 (List.replicate 32 0), .v (.bool false), .ints .i64 2 (List.replicate 2 0), .v (.int .i64 0), .v (.int .i64 0), .v (.bool false)], 5⟩),
  (106, ⟨.str [(0, 3), (1, 79), (2, 62), (105, 4)], 106, 176, [.v (.int .i64 0), .v (.int .u64 0), .v (.int .i64 0), .v (.int .i64 0), .ints .u8 32 (List.replicate 32 0), .ints .u8 32 (List.replicate 32 0), .ints .u8 32 (List.replicate 32 0), .v (.bool false), .ints .i64 2 (List.replicate 2 0), .v (.int .i64 0), .v (.int .i64 0), .v (.bool false)], 5⟩),
  (117, ⟨.int .u32, 1, 4, [.v (.int .u32 0)], 0⟩),
  (121, ⟨.p 5, 1, 8, [.v (.pointer none)], 0⟩)]
open Go in
theorem mixed : Try.prog.follows .mixedOrders = true := by kernel_rfl
theorem tok : TOK Try.prog tab := tok_of (by kernel_rfl)
end Go.Proofs.Ytphbjceeoedigaa
