/- The types of the seat, and a lemma for each. -/
import Derived.Test.YtnmlmmakheckpaaGreatDoorAb08
import Derived.Test.YtnmlmmakheckpaaGreatDoorAb09
import Derived.KernelRfl
namespace Go.Ab.Seat
open Go
def tyTab : List (List (Nat × TI)) := [
  [(1, { kind := .func, size := 1, bytes := 8, zero := [.nilfunc], fields := [] }),
   (2, { kind := .int .i64, size := 1, bytes := 8, zero := [.int .i64 0], fields := [] }),
   (3, { kind := .int .i64, size := 1, bytes := 8, zero := [.int .i64 0], fields := [] }),
   (4, { kind := .bool, size := 1, bytes := 1, zero := [.bool false], fields := [] }),
   (5, { kind := .int .u8, size := 1, bytes := 1, zero := [.int .u8 0], fields := [] }),
   (6, { kind := .int .u8, size := 1, bytes := 1, zero := [.int .u8 0], fields := [] }),
   (7, { kind := .struct, size := 4, bytes := 24, zero := [.int .i64 0, .int .i64 0, .bool false, .int .u8 0], fields := [(0, 1, false), (1, 1, false), (2, 1, false), (3, 1, false)], flat := true }),
   (8, { kind := .struct, size := 4, bytes := 24, zero := [.int .i64 0, .int .i64 0, .bool false, .int .u8 0], fields := [(0, 1, false), (1, 1, false), (2, 1, false), (3, 1, false)], flat := true }),
   (9, { kind := .str, size := 1, bytes := 16, zero := [.str []], fields := [] }),
   (10, { kind := .str, size := 1, bytes := 16, zero := [.str []], fields := [] }),
   (11, { kind := .str, size := 1, bytes := 16, zero := [.str []], fields := [] }),
   (12, { kind := .int .u64, size := 1, bytes := 8, zero := [.int .u64 0], fields := [] }),
   (13, { kind := .struct, size := 2, bytes := 24, zero := [.str [], .int .u64 0], fields := [(0, 1, false), (1, 1, false)] }),
   (14, { kind := .struct, size := 2, bytes := 24, zero := [.str [], .int .u64 0], fields := [(0, 1, false), (1, 1, false)] }),
   (15, { kind := .ptr 211, size := 1, bytes := 8, zero := [.nilptr], fields := [] })],
  [(16, { kind := .ptr 214, size := 1, bytes := 8, zero := [.nilptr], fields := [] }),
   (17, { kind := .ptr 222, size := 1, bytes := 8, zero := [.nilptr], fields := [] }),
   (18, { kind := .struct, size := 1, bytes := 8, zero := [.nilptr], fields := [(0, 1, false)] }),
   (19, { kind := .struct, size := 1, bytes := 8, zero := [.nilptr], fields := [(0, 1, false)] }),
   (20, { kind := .iface, size := 1, bytes := 16, zero := [.nilIface], fields := [] }),
   (21, { kind := .int .i32, size := 1, bytes := 4, zero := [.int .i32 0], fields := [] }),
   (22, { kind := .slice 53, size := 1, bytes := 24, zero := [.rows true []], fields := [] }),
   (23, { kind := .slice 60, size := 1, bytes := 24, zero := [.rows true []], fields := [] }),
   (24, { kind := .slice 83, size := 1, bytes := 24, zero := [.rows true []], fields := [] }),
   (25, { kind := .struct, size := 4, bytes := 48, zero := [.rows true [], .int .i64 0, .int .i64 0, .int .i64 0], fields := [(0, 1, false), (1, 1, false), (2, 1, false), (3, 1, false)] }),
   (26, { kind := .struct, size := 4, bytes := 48, zero := [.rows true [], .int .i64 0, .int .i64 0, .int .i64 0], fields := [(0, 1, false), (1, 1, false), (2, 1, false), (3, 1, false)] }),
   (27, { kind := .struct, size := 7, bytes := 104, zero := [.rows true [], .rows true [], .rows true [], .int .i64 0, .int .i64 0, .int .i64 0, .int .i64 0], fields := [(0, 1, false), (1, 1, false), (2, 4, true), (6, 1, false)] }),
   (28, { kind := .struct, size := 7, bytes := 104, zero := [.rows true [], .rows true [], .rows true [], .int .i64 0, .int .i64 0, .int .i64 0, .int .i64 0], fields := [(0, 1, false), (1, 1, false), (2, 4, true), (6, 1, false)] }),
   (29, { kind := .func, size := 1, bytes := 8, zero := [.nilfunc], fields := [] }),
   (30, { kind := .int .i64, size := 1, bytes := 8, zero := [.int .i64 0], fields := [] }),
   (31, { kind := .func, size := 1, bytes := 8, zero := [.nilfunc], fields := [] })],
  [(32, { kind := .func, size := 1, bytes := 8, zero := [.nilfunc], fields := [] }),
   (34, { kind := .func, size := 1, bytes := 8, zero := [.nilfunc], fields := [] }),
   (35, { kind := .slice 107, size := 1, bytes := 24, zero := [.rows true []], fields := [] }),
   (36, { kind := .slice 112, size := 1, bytes := 24, zero := [.rows true []], fields := [] }),
   (37, { kind := .struct, size := 5, bytes := 72, zero := [.bool false, .rows true [], .rows true [], .int .i64 0, .bool false], fields := [(0, 1, false), (1, 1, false), (2, 1, false), (3, 1, false), (4, 1, false)] }),
   (38, { kind := .struct, size := 5, bytes := 72, zero := [.bool false, .rows true [], .rows true [], .int .i64 0, .bool false], fields := [(0, 1, false), (1, 1, false), (2, 1, false), (3, 1, false), (4, 1, false)] }),
   (39, { kind := .struct, size := 7, bytes := 88, zero := [.int .i64 0, .int .i64 0, .bool false, .rows true [], .rows true [], .int .i64 0, .bool false], fields := [(0, 1, false), (1, 1, false), (2, 5, true)] }),
   (40, { kind := .struct, size := 7, bytes := 88, zero := [.int .i64 0, .int .i64 0, .bool false, .rows true [], .rows true [], .int .i64 0, .bool false], fields := [(0, 1, false), (1, 1, false), (2, 5, true)] }),
   (42, { kind := .func, size := 1, bytes := 8, zero := [.nilfunc], fields := [] }),
   (43, { kind := .slice 47, size := 1, bytes := 24, zero := [.rows true []], fields := [] }),
   (44, { kind := .struct, size := 10, bytes := 136, zero := [.int .i64 0, .str [], .str [], .str [], .str [], .str [], .int .i64 0, .int .i64 0, .int .i64 0, .rows true []], fields := [(0, 1, false), (1, 1, false), (2, 1, false), (3, 1, false), (4, 1, false), (5, 1, false), (6, 1, false), (7, 1, false), (8, 1, false), (9, 1, false)] }),
   (45, { kind := .struct, size := 10, bytes := 136, zero := [.int .i64 0, .str [], .str [], .str [], .str [], .str [], .int .i64 0, .int .i64 0, .int .i64 0, .rows true []], fields := [(0, 1, false), (1, 1, false), (2, 1, false), (3, 1, false), (4, 1, false), (5, 1, false), (6, 1, false), (7, 1, false), (8, 1, false), (9, 1, false)] }),
   (46, { kind := .struct, size := 5, bytes := 64, zero := [.int .i64 0, .str [], .str [], .str [], .int .i64 0], fields := [(0, 1, false), (1, 1, false), (2, 1, false), (3, 1, false), (4, 1, false)], flat := true }),
   (47, { kind := .struct, size := 5, bytes := 64, zero := [.int .i64 0, .str [], .str [], .str [], .int .i64 0], fields := [(0, 1, false), (1, 1, false), (2, 1, false), (3, 1, false), (4, 1, false)], flat := true })],
  [(49, { kind := .func, size := 1, bytes := 8, zero := [.nilfunc], fields := [] }),
   (50, { kind := .struct, size := 3, bytes := 56, zero := [.rows true [], .int .i64 0, .rows true []], fields := [(0, 1, false), (1, 1, false), (2, 1, false)] }),
   (51, { kind := .struct, size := 3, bytes := 56, zero := [.rows true [], .int .i64 0, .rows true []], fields := [(0, 1, false), (1, 1, false), (2, 1, false)] }),
   (52, { kind := .struct, size := 4, bytes := 72, zero := [.str [], .rows true [], .int .i64 0, .rows true []], fields := [(0, 1, false), (1, 3, true)] }),
   (53, { kind := .struct, size := 4, bytes := 72, zero := [.str [], .rows true [], .int .i64 0, .rows true []], fields := [(0, 1, false), (1, 3, true)] }),
   (54, { kind := .func, size := 1, bytes := 8, zero := [.nilfunc], fields := [] }),
   (55, { kind := .func, size := 1, bytes := 8, zero := [.nilfunc], fields := [] }),
   (56, { kind := .func, size := 1, bytes := 8, zero := [.nilfunc], fields := [] }),
   (57, { kind := .func, size := 1, bytes := 8, zero := [.nilfunc], fields := [] }),
   (58, { kind := .func, size := 1, bytes := 8, zero := [.nilfunc], fields := [] }),
   (59, { kind := .struct, size := 3, bytes := 40, zero := [.str [], .str [], .int .i64 0], fields := [(0, 1, false), (1, 1, false), (2, 1, false)], flat := true }),
   (60, { kind := .struct, size := 3, bytes := 40, zero := [.str [], .str [], .int .i64 0], fields := [(0, 1, false), (1, 1, false), (2, 1, false)], flat := true }),
   (61, { kind := .slice 9, size := 1, bytes := 24, zero := [.rows true []], fields := [] }),
   (62, { kind := .func, size := 1, bytes := 8, zero := [.nilfunc], fields := [] }),
   (63, { kind := .ptr 66, size := 1, bytes := 8, zero := [.nilptr], fields := [] })],
  [(64, { kind := .func, size := 1, bytes := 8, zero := [.nilfunc], fields := [] }),
   (65, { kind := .struct, size := 17, bytes := 240, zero := [.rows true [], .rows true [], .rows true [], .int .i64 0, .int .i64 0, .int .i64 0, .int .i64 0, .int .i64 0, .str [], .str [], .str [], .str [], .str [], .int .i64 0, .int .i64 0, .int .i64 0, .rows true []], fields := [(0, 7, true), (7, 10, true)] }),
   (66, { kind := .struct, size := 17, bytes := 240, zero := [.rows true [], .rows true [], .rows true [], .int .i64 0, .int .i64 0, .int .i64 0, .int .i64 0, .int .i64 0, .str [], .str [], .str [], .str [], .str [], .int .i64 0, .int .i64 0, .int .i64 0, .rows true []], fields := [(0, 7, true), (7, 10, true)] }),
   (68, { kind := .func, size := 1, bytes := 8, zero := [.nilfunc], fields := [] }),
   (70, { kind := .func, size := 1, bytes := 8, zero := [.nilfunc], fields := [] }),
   (71, { kind := .func, size := 1, bytes := 8, zero := [.nilfunc], fields := [] }),
   (72, { kind := .func, size := 1, bytes := 8, zero := [.nilfunc], fields := [] }),
   (73, { kind := .func, size := 1, bytes := 8, zero := [.nilfunc], fields := [] }),
   (74, { kind := .ptr 109, size := 1, bytes := 8, zero := [.nilptr], fields := [] }),
   (76, { kind := .func, size := 1, bytes := 8, zero := [.nilfunc], fields := [] }),
   (77, { kind := .func, size := 1, bytes := 8, zero := [.nilfunc], fields := [] }),
   (78, { kind := .func, size := 1, bytes := 8, zero := [.nilfunc], fields := [] }),
   (79, { kind := .func, size := 1, bytes := 8, zero := [.nilfunc], fields := [] })],
  [(80, { kind := .map 9 4, size := 1, bytes := 8, zero := [.nilmap], fields := [] }),
   (81, { kind := .func, size := 1, bytes := 8, zero := [.nilfunc], fields := [] }),
   (82, { kind := .struct, size := 5, bytes := 56, zero := [.int .i64 0, .str [], .str [], .int .i64 0, .int .i64 0], fields := [(0, 1, false), (1, 1, false), (2, 1, false), (3, 1, false), (4, 1, false)], flat := true }),
   (83, { kind := .struct, size := 5, bytes := 56, zero := [.int .i64 0, .str [], .str [], .int .i64 0, .int .i64 0], fields := [(0, 1, false), (1, 1, false), (2, 1, false), (3, 1, false), (4, 1, false)], flat := true }),
   (84, { kind := .func, size := 1, bytes := 8, zero := [.nilfunc], fields := [] }),
   (85, { kind := .func, size := 1, bytes := 8, zero := [.nilfunc], fields := [] }),
   (86, { kind := .slice 35, size := 1, bytes := 24, zero := [.rows true []], fields := [] }),
   (88, { kind := .func, size := 1, bytes := 8, zero := [.nilfunc], fields := [] }),
   (89, { kind := .func, size := 1, bytes := 8, zero := [.nilfunc], fields := [] }),
   (90, { kind := .func, size := 1, bytes := 8, zero := [.nilfunc], fields := [] }),
   (91, { kind := .func, size := 1, bytes := 8, zero := [.nilfunc], fields := [] }),
   (92, { kind := .func, size := 1, bytes := 8, zero := [.nilfunc], fields := [] }),
   (93, { kind := .func, size := 1, bytes := 8, zero := [.nilfunc], fields := [] }),
   (94, { kind := .func, size := 1, bytes := 8, zero := [.nilfunc], fields := [] })],
  [(96, { kind := .func, size := 1, bytes := 8, zero := [.nilfunc], fields := [] }),
   (97, { kind := .func, size := 1, bytes := 8, zero := [.nilfunc], fields := [] }),
   (99, { kind := .func, size := 1, bytes := 8, zero := [.nilfunc], fields := [] }),
   (100, { kind := .func, size := 1, bytes := 8, zero := [.nilfunc], fields := [] }),
   (101, { kind := .func, size := 1, bytes := 8, zero := [.nilfunc], fields := [] }),
   (102, { kind := .func, size := 1, bytes := 8, zero := [.nilfunc], fields := [] }),
   (103, { kind := .func, size := 1, bytes := 8, zero := [.nilfunc], fields := [] }),
   (104, { kind := .func, size := 1, bytes := 8, zero := [.nilfunc], fields := [] }),
   (105, { kind := .func, size := 1, bytes := 8, zero := [.nilfunc], fields := [] }),
   (106, { kind := .struct, size := 4, bytes := 48, zero := [.str [], .bool false, .str [], .int .i64 0], fields := [(0, 1, false), (1, 1, false), (2, 1, false), (3, 1, false)], flat := true }),
   (107, { kind := .struct, size := 4, bytes := 48, zero := [.str [], .bool false, .str [], .int .i64 0], fields := [(0, 1, false), (1, 1, false), (2, 1, false), (3, 1, false)], flat := true }),
   (108, { kind := .struct, size := 4, bytes := 80, zero := [.rows true [], .int .i64 0, .rows true [], .rows true []], fields := [(0, 3, true), (3, 1, false)] }),
   (109, { kind := .struct, size := 4, bytes := 80, zero := [.rows true [], .int .i64 0, .rows true [], .rows true []], fields := [(0, 3, true), (3, 1, false)] }),
   (110, { kind := .func, size := 1, bytes := 8, zero := [.nilfunc], fields := [] }),
   (111, { kind := .struct, size := 3, bytes := 48, zero := [.int .i64 0, .str [], .rows true []], fields := [(0, 1, false), (1, 1, false), (2, 1, false)] })],
  [(112, { kind := .struct, size := 3, bytes := 48, zero := [.int .i64 0, .str [], .rows true []], fields := [(0, 1, false), (1, 1, false), (2, 1, false)] }),
   (114, { kind := .func, size := 1, bytes := 8, zero := [.nilfunc], fields := [] }),
   (115, { kind := .func, size := 1, bytes := 8, zero := [.nilfunc], fields := [] }),
   (116, { kind := .func, size := 1, bytes := 8, zero := [.nilfunc], fields := [] }),
   (117, { kind := .func, size := 1, bytes := 8, zero := [.nilfunc], fields := [] }),
   (118, { kind := .func, size := 1, bytes := 8, zero := [.nilfunc], fields := [] }),
   (119, { kind := .func, size := 1, bytes := 8, zero := [.nilfunc], fields := [] }),
   (121, { kind := .func, size := 1, bytes := 8, zero := [.nilfunc], fields := [] }),
   (122, { kind := .func, size := 1, bytes := 8, zero := [.nilfunc], fields := [] }),
   (123, { kind := .func, size := 1, bytes := 8, zero := [.nilfunc], fields := [] }),
   (125, { kind := .func, size := 1, bytes := 8, zero := [.nilfunc], fields := [] }),
   (127, { kind := .func, size := 1, bytes := 8, zero := [.nilfunc], fields := [] })],
  [(128, { kind := .ptr 83, size := 1, bytes := 8, zero := [.nilptr], fields := [] }),
   (129, { kind := .func, size := 1, bytes := 8, zero := [.nilfunc], fields := [] }),
   (131, { kind := .func, size := 1, bytes := 8, zero := [.nilfunc], fields := [] }),
   (133, { kind := .func, size := 1, bytes := 8, zero := [.nilfunc], fields := [] }),
   (134, { kind := .int .u64, size := 1, bytes := 8, zero := [.int .u64 0], fields := [] }),
   (135, { kind := .func, size := 1, bytes := 8, zero := [.nilfunc], fields := [] }),
   (136, { kind := .func, size := 1, bytes := 8, zero := [.nilfunc], fields := [] }),
   (137, { kind := .func, size := 1, bytes := 8, zero := [.nilfunc], fields := [] }),
   (138, { kind := .func, size := 1, bytes := 8, zero := [.nilfunc], fields := [] }),
   (139, { kind := .func, size := 1, bytes := 8, zero := [.nilfunc], fields := [] }),
   (140, { kind := .slice 3, size := 1, bytes := 24, zero := [.rows true []], fields := [] }),
   (141, { kind := .func, size := 1, bytes := 8, zero := [.nilfunc], fields := [] }),
   (142, { kind := .func, size := 1, bytes := 8, zero := [.nilfunc], fields := [] }),
   (143, { kind := .func, size := 1, bytes := 8, zero := [.nilfunc], fields := [] })],
  [(144, { kind := .func, size := 1, bytes := 8, zero := [.nilfunc], fields := [] }),
   (145, { kind := .func, size := 1, bytes := 8, zero := [.nilfunc], fields := [] }),
   (146, { kind := .func, size := 1, bytes := 8, zero := [.nilfunc], fields := [] }),
   (147, { kind := .func, size := 1, bytes := 8, zero := [.nilfunc], fields := [] }),
   (148, { kind := .func, size := 1, bytes := 8, zero := [.nilfunc], fields := [] }),
   (149, { kind := .func, size := 1, bytes := 8, zero := [.nilfunc], fields := [] }),
   (150, { kind := .func, size := 1, bytes := 8, zero := [.nilfunc], fields := [] }),
   (151, { kind := .func, size := 1, bytes := 8, zero := [.nilfunc], fields := [] }),
   (152, { kind := .func, size := 1, bytes := 8, zero := [.nilfunc], fields := [] }),
   (153, { kind := .func, size := 1, bytes := 8, zero := [.nilfunc], fields := [] }),
   (154, { kind := .func, size := 1, bytes := 8, zero := [.nilfunc], fields := [] }),
   (155, { kind := .func, size := 1, bytes := 8, zero := [.nilfunc], fields := [] }),
   (156, { kind := .func, size := 1, bytes := 8, zero := [.nilfunc], fields := [] }),
   (157, { kind := .func, size := 1, bytes := 8, zero := [.nilfunc], fields := [] }),
   (158, { kind := .func, size := 1, bytes := 8, zero := [.nilfunc], fields := [] }),
   (159, { kind := .func, size := 1, bytes := 8, zero := [.nilfunc], fields := [] })],
  [(160, { kind := .func, size := 1, bytes := 8, zero := [.nilfunc], fields := [] }),
   (161, { kind := .func, size := 1, bytes := 8, zero := [.nilfunc], fields := [] }),
   (162, { kind := .func, size := 1, bytes := 8, zero := [.nilfunc], fields := [] }),
   (163, { kind := .func, size := 1, bytes := 8, zero := [.nilfunc], fields := [] }),
   (164, { kind := .func, size := 1, bytes := 8, zero := [.nilfunc], fields := [] }),
   (165, { kind := .func, size := 1, bytes := 8, zero := [.nilfunc], fields := [] }),
   (166, { kind := .func, size := 1, bytes := 8, zero := [.nilfunc], fields := [] }),
   (167, { kind := .func, size := 1, bytes := 8, zero := [.nilfunc], fields := [] }),
   (168, { kind := .func, size := 1, bytes := 8, zero := [.nilfunc], fields := [] }),
   (169, { kind := .func, size := 1, bytes := 8, zero := [.nilfunc], fields := [] }),
   (171, { kind := .func, size := 1, bytes := 8, zero := [.nilfunc], fields := [] }),
   (172, { kind := .func, size := 1, bytes := 8, zero := [.nilfunc], fields := [] }),
   (173, { kind := .func, size := 1, bytes := 8, zero := [.nilfunc], fields := [] }),
   (174, { kind := .func, size := 1, bytes := 8, zero := [.nilfunc], fields := [] }),
   (175, { kind := .func, size := 1, bytes := 8, zero := [.nilfunc], fields := [] })],
  [(177, { kind := .func, size := 1, bytes := 8, zero := [.nilfunc], fields := [] }),
   (178, { kind := .func, size := 1, bytes := 8, zero := [.nilfunc], fields := [] }),
   (179, { kind := .func, size := 1, bytes := 8, zero := [.nilfunc], fields := [] }),
   (180, { kind := .func, size := 1, bytes := 8, zero := [.nilfunc], fields := [] }),
   (181, { kind := .func, size := 1, bytes := 8, zero := [.nilfunc], fields := [] }),
   (183, { kind := .func, size := 1, bytes := 8, zero := [.nilfunc], fields := [] }),
   (184, { kind := .func, size := 1, bytes := 8, zero := [.nilfunc], fields := [] }),
   (185, { kind := .func, size := 1, bytes := 8, zero := [.nilfunc], fields := [] }),
   (186, { kind := .func, size := 1, bytes := 8, zero := [.nilfunc], fields := [] }),
   (187, { kind := .func, size := 1, bytes := 8, zero := [.nilfunc], fields := [] }),
   (188, { kind := .func, size := 1, bytes := 8, zero := [.nilfunc], fields := [] }),
   (189, { kind := .func, size := 1, bytes := 8, zero := [.nilfunc], fields := [] }),
   (190, { kind := .func, size := 1, bytes := 8, zero := [.nilfunc], fields := [] }),
   (191, { kind := .func, size := 1, bytes := 8, zero := [.nilfunc], fields := [] })],
  [(192, { kind := .func, size := 1, bytes := 8, zero := [.nilfunc], fields := [] }),
   (193, { kind := .func, size := 1, bytes := 8, zero := [.nilfunc], fields := [] }),
   (194, { kind := .func, size := 1, bytes := 8, zero := [.nilfunc], fields := [] }),
   (195, { kind := .func, size := 1, bytes := 8, zero := [.nilfunc], fields := [] }),
   (196, { kind := .func, size := 1, bytes := 8, zero := [.nilfunc], fields := [] }),
   (197, { kind := .func, size := 1, bytes := 8, zero := [.nilfunc], fields := [] }),
   (199, { kind := .func, size := 1, bytes := 8, zero := [.nilfunc], fields := [] }),
   (200, { kind := .func, size := 1, bytes := 8, zero := [.nilfunc], fields := [] }),
   (201, { kind := .func, size := 1, bytes := 8, zero := [.nilfunc], fields := [] }),
   (203, { kind := .struct, size := 2, bytes := 2, zero := [.int .u8 0, .int .u8 0], fields := [(0, 1, false), (1, 1, false)], flat := true }),
   (204, { kind := .struct, size := 2, bytes := 2, zero := [.int .u8 0, .int .u8 0], fields := [(0, 1, false), (1, 1, false)], flat := true }),
   (205, { kind := .array 16 204, size := 32, bytes := 32, zero := [.int .u8 0, .int .u8 0, .int .u8 0, .int .u8 0, .int .u8 0, .int .u8 0, .int .u8 0, .int .u8 0, .int .u8 0, .int .u8 0, .int .u8 0, .int .u8 0, .int .u8 0, .int .u8 0, .int .u8 0, .int .u8 0, .int .u8 0, .int .u8 0, .int .u8 0, .int .u8 0, .int .u8 0, .int .u8 0, .int .u8 0, .int .u8 0, .int .u8 0, .int .u8 0, .int .u8 0, .int .u8 0, .int .u8 0, .int .u8 0, .int .u8 0, .int .u8 0], fields := [] }),
   (206, { kind := .int .u32, size := 1, bytes := 4, zero := [.int .u32 0], fields := [] })],
  [(208, { kind := .func, size := 1, bytes := 8, zero := [.nilfunc], fields := [] }),
   (209, { kind := .func, size := 1, bytes := 8, zero := [.nilfunc], fields := [] }),
   (210, { kind := .struct, size := 4, bytes := 40, zero := [.nilptr, .nilptr, .nilptr, .str []], fields := [(0, 1, false), (1, 1, false), (2, 1, false), (3, 1, false)] }),
   (211, { kind := .struct, size := 4, bytes := 40, zero := [.nilptr, .nilptr, .nilptr, .str []], fields := [(0, 1, false), (1, 1, false), (2, 1, false), (3, 1, false)] }),
   (212, { kind := .array 0 16, size := 0, bytes := 0, zero := [], fields := [] }),
   (213, { kind := .struct, size := 0, bytes := 0, zero := [], fields := [(0, 0, true)] }),
   (214, { kind := .struct, size := 0, bytes := 0, zero := [], fields := [(0, 0, true)] }),
   (215, { kind := .int .u8, size := 1, bytes := 1, zero := [.int .u8 0], fields := [] }),
   (216, { kind := .int .u8, size := 1, bytes := 1, zero := [.int .u8 0], fields := [] }),
   (217, { kind := .func, size := 1, bytes := 8, zero := [.nilfunc], fields := [] }),
   (218, { kind := .ptr 5, size := 1, bytes := 8, zero := [.nilptr], fields := [] }),
   (219, { kind := .int .i32, size := 1, bytes := 4, zero := [.int .i32 0], fields := [] }),
   (220, { kind := .int .i32, size := 1, bytes := 4, zero := [.int .i32 0], fields := [] }),
   (221, { kind := .struct, size := 11, bytes := 48, zero := [.int .u64 0, .int .u64 0, .int .u32 0, .int .u8 0, .int .u8 0, .int .u8 0, .int .u8 0, .nilfunc, .nilptr, .int .i32 0, .int .i32 0], fields := [(0, 1, false), (1, 1, false), (2, 1, false), (3, 1, false), (4, 1, false), (5, 1, false), (6, 1, false), (7, 1, false), (8, 1, false), (9, 1, false), (10, 1, false)] }),
   (222, { kind := .struct, size := 11, bytes := 48, zero := [.int .u64 0, .int .u64 0, .int .u32 0, .int .u8 0, .int .u8 0, .int .u8 0, .int .u8 0, .nilfunc, .nilptr, .int .i32 0, .int .i32 0], fields := [(0, 1, false), (1, 1, false), (2, 1, false), (3, 1, false), (4, 1, false), (5, 1, false), (6, 1, false), (7, 1, false), (8, 1, false), (9, 1, false), (10, 1, false)] })]]
theorem ty1 : tyBy tyTab 1 = some { kind := .func, size := 1, bytes := 8, zero := [.nilfunc], fields := [] } := rfl
theorem ty2 : tyBy tyTab 2 = some { kind := .int .i64, size := 1, bytes := 8, zero := [.int .i64 0], fields := [] } := rfl
theorem ty3 : tyBy tyTab 3 = some { kind := .int .i64, size := 1, bytes := 8, zero := [.int .i64 0], fields := [] } := rfl
theorem ty4 : tyBy tyTab 4 = some { kind := .bool, size := 1, bytes := 1, zero := [.bool false], fields := [] } := rfl
theorem ty5 : tyBy tyTab 5 = some { kind := .int .u8, size := 1, bytes := 1, zero := [.int .u8 0], fields := [] } := rfl
theorem ty6 : tyBy tyTab 6 = some { kind := .int .u8, size := 1, bytes := 1, zero := [.int .u8 0], fields := [] } := rfl
theorem ty7 : tyBy tyTab 7 = some { kind := .struct, size := 4, bytes := 24, zero := [.int .i64 0, .int .i64 0, .bool false, .int .u8 0], fields := [(0, 1, false), (1, 1, false), (2, 1, false), (3, 1, false)], flat := true } := rfl
theorem ty8 : tyBy tyTab 8 = some { kind := .struct, size := 4, bytes := 24, zero := [.int .i64 0, .int .i64 0, .bool false, .int .u8 0], fields := [(0, 1, false), (1, 1, false), (2, 1, false), (3, 1, false)], flat := true } := rfl
theorem ty9 : tyBy tyTab 9 = some { kind := .str, size := 1, bytes := 16, zero := [.str []], fields := [] } := rfl
theorem ty10 : tyBy tyTab 10 = some { kind := .str, size := 1, bytes := 16, zero := [.str []], fields := [] } := rfl
theorem ty11 : tyBy tyTab 11 = some { kind := .str, size := 1, bytes := 16, zero := [.str []], fields := [] } := rfl
theorem ty12 : tyBy tyTab 12 = some { kind := .int .u64, size := 1, bytes := 8, zero := [.int .u64 0], fields := [] } := rfl
theorem ty13 : tyBy tyTab 13 = some { kind := .struct, size := 2, bytes := 24, zero := [.str [], .int .u64 0], fields := [(0, 1, false), (1, 1, false)] } := rfl
theorem ty14 : tyBy tyTab 14 = some { kind := .struct, size := 2, bytes := 24, zero := [.str [], .int .u64 0], fields := [(0, 1, false), (1, 1, false)] } := rfl
theorem ty15 : tyBy tyTab 15 = some { kind := .ptr 211, size := 1, bytes := 8, zero := [.nilptr], fields := [] } := rfl
theorem ty16 : tyBy tyTab 16 = some { kind := .ptr 214, size := 1, bytes := 8, zero := [.nilptr], fields := [] } := rfl
theorem ty17 : tyBy tyTab 17 = some { kind := .ptr 222, size := 1, bytes := 8, zero := [.nilptr], fields := [] } := rfl
theorem ty18 : tyBy tyTab 18 = some { kind := .struct, size := 1, bytes := 8, zero := [.nilptr], fields := [(0, 1, false)] } := rfl
theorem ty19 : tyBy tyTab 19 = some { kind := .struct, size := 1, bytes := 8, zero := [.nilptr], fields := [(0, 1, false)] } := rfl
theorem ty20 : tyBy tyTab 20 = some { kind := .iface, size := 1, bytes := 16, zero := [.nilIface], fields := [] } := rfl
theorem ty21 : tyBy tyTab 21 = some { kind := .int .i32, size := 1, bytes := 4, zero := [.int .i32 0], fields := [] } := rfl
theorem ty22 : tyBy tyTab 22 = some { kind := .slice 53, size := 1, bytes := 24, zero := [.rows true []], fields := [] } := rfl
theorem ty23 : tyBy tyTab 23 = some { kind := .slice 60, size := 1, bytes := 24, zero := [.rows true []], fields := [] } := rfl
theorem ty24 : tyBy tyTab 24 = some { kind := .slice 83, size := 1, bytes := 24, zero := [.rows true []], fields := [] } := rfl
theorem ty25 : tyBy tyTab 25 = some { kind := .struct, size := 4, bytes := 48, zero := [.rows true [], .int .i64 0, .int .i64 0, .int .i64 0], fields := [(0, 1, false), (1, 1, false), (2, 1, false), (3, 1, false)] } := rfl
theorem ty26 : tyBy tyTab 26 = some { kind := .struct, size := 4, bytes := 48, zero := [.rows true [], .int .i64 0, .int .i64 0, .int .i64 0], fields := [(0, 1, false), (1, 1, false), (2, 1, false), (3, 1, false)] } := rfl
theorem ty27 : tyBy tyTab 27 = some { kind := .struct, size := 7, bytes := 104, zero := [.rows true [], .rows true [], .rows true [], .int .i64 0, .int .i64 0, .int .i64 0, .int .i64 0], fields := [(0, 1, false), (1, 1, false), (2, 4, true), (6, 1, false)] } := rfl
theorem ty28 : tyBy tyTab 28 = some { kind := .struct, size := 7, bytes := 104, zero := [.rows true [], .rows true [], .rows true [], .int .i64 0, .int .i64 0, .int .i64 0, .int .i64 0], fields := [(0, 1, false), (1, 1, false), (2, 4, true), (6, 1, false)] } := rfl
theorem ty29 : tyBy tyTab 29 = some { kind := .func, size := 1, bytes := 8, zero := [.nilfunc], fields := [] } := rfl
theorem ty30 : tyBy tyTab 30 = some { kind := .int .i64, size := 1, bytes := 8, zero := [.int .i64 0], fields := [] } := rfl
theorem ty31 : tyBy tyTab 31 = some { kind := .func, size := 1, bytes := 8, zero := [.nilfunc], fields := [] } := rfl
theorem ty32 : tyBy tyTab 32 = some { kind := .func, size := 1, bytes := 8, zero := [.nilfunc], fields := [] } := rfl
theorem ty34 : tyBy tyTab 34 = some { kind := .func, size := 1, bytes := 8, zero := [.nilfunc], fields := [] } := rfl
theorem ty35 : tyBy tyTab 35 = some { kind := .slice 107, size := 1, bytes := 24, zero := [.rows true []], fields := [] } := rfl
theorem ty36 : tyBy tyTab 36 = some { kind := .slice 112, size := 1, bytes := 24, zero := [.rows true []], fields := [] } := rfl
theorem ty37 : tyBy tyTab 37 = some { kind := .struct, size := 5, bytes := 72, zero := [.bool false, .rows true [], .rows true [], .int .i64 0, .bool false], fields := [(0, 1, false), (1, 1, false), (2, 1, false), (3, 1, false), (4, 1, false)] } := rfl
theorem ty38 : tyBy tyTab 38 = some { kind := .struct, size := 5, bytes := 72, zero := [.bool false, .rows true [], .rows true [], .int .i64 0, .bool false], fields := [(0, 1, false), (1, 1, false), (2, 1, false), (3, 1, false), (4, 1, false)] } := rfl
theorem ty39 : tyBy tyTab 39 = some { kind := .struct, size := 7, bytes := 88, zero := [.int .i64 0, .int .i64 0, .bool false, .rows true [], .rows true [], .int .i64 0, .bool false], fields := [(0, 1, false), (1, 1, false), (2, 5, true)] } := rfl
theorem ty40 : tyBy tyTab 40 = some { kind := .struct, size := 7, bytes := 88, zero := [.int .i64 0, .int .i64 0, .bool false, .rows true [], .rows true [], .int .i64 0, .bool false], fields := [(0, 1, false), (1, 1, false), (2, 5, true)] } := rfl
theorem ty42 : tyBy tyTab 42 = some { kind := .func, size := 1, bytes := 8, zero := [.nilfunc], fields := [] } := rfl
theorem ty43 : tyBy tyTab 43 = some { kind := .slice 47, size := 1, bytes := 24, zero := [.rows true []], fields := [] } := rfl
theorem ty44 : tyBy tyTab 44 = some { kind := .struct, size := 10, bytes := 136, zero := [.int .i64 0, .str [], .str [], .str [], .str [], .str [], .int .i64 0, .int .i64 0, .int .i64 0, .rows true []], fields := [(0, 1, false), (1, 1, false), (2, 1, false), (3, 1, false), (4, 1, false), (5, 1, false), (6, 1, false), (7, 1, false), (8, 1, false), (9, 1, false)] } := rfl
theorem ty45 : tyBy tyTab 45 = some { kind := .struct, size := 10, bytes := 136, zero := [.int .i64 0, .str [], .str [], .str [], .str [], .str [], .int .i64 0, .int .i64 0, .int .i64 0, .rows true []], fields := [(0, 1, false), (1, 1, false), (2, 1, false), (3, 1, false), (4, 1, false), (5, 1, false), (6, 1, false), (7, 1, false), (8, 1, false), (9, 1, false)] } := rfl
theorem ty46 : tyBy tyTab 46 = some { kind := .struct, size := 5, bytes := 64, zero := [.int .i64 0, .str [], .str [], .str [], .int .i64 0], fields := [(0, 1, false), (1, 1, false), (2, 1, false), (3, 1, false), (4, 1, false)], flat := true } := rfl
theorem ty47 : tyBy tyTab 47 = some { kind := .struct, size := 5, bytes := 64, zero := [.int .i64 0, .str [], .str [], .str [], .int .i64 0], fields := [(0, 1, false), (1, 1, false), (2, 1, false), (3, 1, false), (4, 1, false)], flat := true } := rfl
theorem ty49 : tyBy tyTab 49 = some { kind := .func, size := 1, bytes := 8, zero := [.nilfunc], fields := [] } := rfl
theorem ty50 : tyBy tyTab 50 = some { kind := .struct, size := 3, bytes := 56, zero := [.rows true [], .int .i64 0, .rows true []], fields := [(0, 1, false), (1, 1, false), (2, 1, false)] } := rfl
theorem ty51 : tyBy tyTab 51 = some { kind := .struct, size := 3, bytes := 56, zero := [.rows true [], .int .i64 0, .rows true []], fields := [(0, 1, false), (1, 1, false), (2, 1, false)] } := rfl
theorem ty52 : tyBy tyTab 52 = some { kind := .struct, size := 4, bytes := 72, zero := [.str [], .rows true [], .int .i64 0, .rows true []], fields := [(0, 1, false), (1, 3, true)] } := rfl
theorem ty53 : tyBy tyTab 53 = some { kind := .struct, size := 4, bytes := 72, zero := [.str [], .rows true [], .int .i64 0, .rows true []], fields := [(0, 1, false), (1, 3, true)] } := rfl
theorem ty54 : tyBy tyTab 54 = some { kind := .func, size := 1, bytes := 8, zero := [.nilfunc], fields := [] } := rfl
theorem ty55 : tyBy tyTab 55 = some { kind := .func, size := 1, bytes := 8, zero := [.nilfunc], fields := [] } := rfl
theorem ty56 : tyBy tyTab 56 = some { kind := .func, size := 1, bytes := 8, zero := [.nilfunc], fields := [] } := rfl
theorem ty57 : tyBy tyTab 57 = some { kind := .func, size := 1, bytes := 8, zero := [.nilfunc], fields := [] } := rfl
theorem ty58 : tyBy tyTab 58 = some { kind := .func, size := 1, bytes := 8, zero := [.nilfunc], fields := [] } := rfl
theorem ty59 : tyBy tyTab 59 = some { kind := .struct, size := 3, bytes := 40, zero := [.str [], .str [], .int .i64 0], fields := [(0, 1, false), (1, 1, false), (2, 1, false)], flat := true } := rfl
theorem ty60 : tyBy tyTab 60 = some { kind := .struct, size := 3, bytes := 40, zero := [.str [], .str [], .int .i64 0], fields := [(0, 1, false), (1, 1, false), (2, 1, false)], flat := true } := rfl
theorem ty61 : tyBy tyTab 61 = some { kind := .slice 9, size := 1, bytes := 24, zero := [.rows true []], fields := [] } := rfl
theorem ty62 : tyBy tyTab 62 = some { kind := .func, size := 1, bytes := 8, zero := [.nilfunc], fields := [] } := rfl
theorem ty63 : tyBy tyTab 63 = some { kind := .ptr 66, size := 1, bytes := 8, zero := [.nilptr], fields := [] } := rfl
theorem ty64 : tyBy tyTab 64 = some { kind := .func, size := 1, bytes := 8, zero := [.nilfunc], fields := [] } := rfl
theorem ty65 : tyBy tyTab 65 = some { kind := .struct, size := 17, bytes := 240, zero := [.rows true [], .rows true [], .rows true [], .int .i64 0, .int .i64 0, .int .i64 0, .int .i64 0, .int .i64 0, .str [], .str [], .str [], .str [], .str [], .int .i64 0, .int .i64 0, .int .i64 0, .rows true []], fields := [(0, 7, true), (7, 10, true)] } := rfl
theorem ty66 : tyBy tyTab 66 = some { kind := .struct, size := 17, bytes := 240, zero := [.rows true [], .rows true [], .rows true [], .int .i64 0, .int .i64 0, .int .i64 0, .int .i64 0, .int .i64 0, .str [], .str [], .str [], .str [], .str [], .int .i64 0, .int .i64 0, .int .i64 0, .rows true []], fields := [(0, 7, true), (7, 10, true)] } := rfl
theorem ty68 : tyBy tyTab 68 = some { kind := .func, size := 1, bytes := 8, zero := [.nilfunc], fields := [] } := rfl
theorem ty70 : tyBy tyTab 70 = some { kind := .func, size := 1, bytes := 8, zero := [.nilfunc], fields := [] } := rfl
theorem ty71 : tyBy tyTab 71 = some { kind := .func, size := 1, bytes := 8, zero := [.nilfunc], fields := [] } := rfl
theorem ty72 : tyBy tyTab 72 = some { kind := .func, size := 1, bytes := 8, zero := [.nilfunc], fields := [] } := rfl
theorem ty73 : tyBy tyTab 73 = some { kind := .func, size := 1, bytes := 8, zero := [.nilfunc], fields := [] } := rfl
theorem ty74 : tyBy tyTab 74 = some { kind := .ptr 109, size := 1, bytes := 8, zero := [.nilptr], fields := [] } := rfl
theorem ty76 : tyBy tyTab 76 = some { kind := .func, size := 1, bytes := 8, zero := [.nilfunc], fields := [] } := rfl
theorem ty77 : tyBy tyTab 77 = some { kind := .func, size := 1, bytes := 8, zero := [.nilfunc], fields := [] } := rfl
theorem ty78 : tyBy tyTab 78 = some { kind := .func, size := 1, bytes := 8, zero := [.nilfunc], fields := [] } := rfl
theorem ty79 : tyBy tyTab 79 = some { kind := .func, size := 1, bytes := 8, zero := [.nilfunc], fields := [] } := rfl
theorem ty80 : tyBy tyTab 80 = some { kind := .map 9 4, size := 1, bytes := 8, zero := [.nilmap], fields := [] } := rfl
theorem ty81 : tyBy tyTab 81 = some { kind := .func, size := 1, bytes := 8, zero := [.nilfunc], fields := [] } := rfl
theorem ty82 : tyBy tyTab 82 = some { kind := .struct, size := 5, bytes := 56, zero := [.int .i64 0, .str [], .str [], .int .i64 0, .int .i64 0], fields := [(0, 1, false), (1, 1, false), (2, 1, false), (3, 1, false), (4, 1, false)], flat := true } := rfl
theorem ty83 : tyBy tyTab 83 = some { kind := .struct, size := 5, bytes := 56, zero := [.int .i64 0, .str [], .str [], .int .i64 0, .int .i64 0], fields := [(0, 1, false), (1, 1, false), (2, 1, false), (3, 1, false), (4, 1, false)], flat := true } := rfl
theorem ty84 : tyBy tyTab 84 = some { kind := .func, size := 1, bytes := 8, zero := [.nilfunc], fields := [] } := rfl
theorem ty85 : tyBy tyTab 85 = some { kind := .func, size := 1, bytes := 8, zero := [.nilfunc], fields := [] } := rfl
theorem ty86 : tyBy tyTab 86 = some { kind := .slice 35, size := 1, bytes := 24, zero := [.rows true []], fields := [] } := rfl
theorem ty88 : tyBy tyTab 88 = some { kind := .func, size := 1, bytes := 8, zero := [.nilfunc], fields := [] } := rfl
theorem ty89 : tyBy tyTab 89 = some { kind := .func, size := 1, bytes := 8, zero := [.nilfunc], fields := [] } := rfl
theorem ty90 : tyBy tyTab 90 = some { kind := .func, size := 1, bytes := 8, zero := [.nilfunc], fields := [] } := rfl
theorem ty91 : tyBy tyTab 91 = some { kind := .func, size := 1, bytes := 8, zero := [.nilfunc], fields := [] } := rfl
theorem ty92 : tyBy tyTab 92 = some { kind := .func, size := 1, bytes := 8, zero := [.nilfunc], fields := [] } := rfl
theorem ty93 : tyBy tyTab 93 = some { kind := .func, size := 1, bytes := 8, zero := [.nilfunc], fields := [] } := rfl
theorem ty94 : tyBy tyTab 94 = some { kind := .func, size := 1, bytes := 8, zero := [.nilfunc], fields := [] } := rfl
theorem ty96 : tyBy tyTab 96 = some { kind := .func, size := 1, bytes := 8, zero := [.nilfunc], fields := [] } := rfl
theorem ty97 : tyBy tyTab 97 = some { kind := .func, size := 1, bytes := 8, zero := [.nilfunc], fields := [] } := rfl
theorem ty99 : tyBy tyTab 99 = some { kind := .func, size := 1, bytes := 8, zero := [.nilfunc], fields := [] } := rfl
theorem ty100 : tyBy tyTab 100 = some { kind := .func, size := 1, bytes := 8, zero := [.nilfunc], fields := [] } := rfl
theorem ty101 : tyBy tyTab 101 = some { kind := .func, size := 1, bytes := 8, zero := [.nilfunc], fields := [] } := rfl
theorem ty102 : tyBy tyTab 102 = some { kind := .func, size := 1, bytes := 8, zero := [.nilfunc], fields := [] } := rfl
theorem ty103 : tyBy tyTab 103 = some { kind := .func, size := 1, bytes := 8, zero := [.nilfunc], fields := [] } := rfl
theorem ty104 : tyBy tyTab 104 = some { kind := .func, size := 1, bytes := 8, zero := [.nilfunc], fields := [] } := rfl
theorem ty105 : tyBy tyTab 105 = some { kind := .func, size := 1, bytes := 8, zero := [.nilfunc], fields := [] } := rfl
theorem ty106 : tyBy tyTab 106 = some { kind := .struct, size := 4, bytes := 48, zero := [.str [], .bool false, .str [], .int .i64 0], fields := [(0, 1, false), (1, 1, false), (2, 1, false), (3, 1, false)], flat := true } := rfl
theorem ty107 : tyBy tyTab 107 = some { kind := .struct, size := 4, bytes := 48, zero := [.str [], .bool false, .str [], .int .i64 0], fields := [(0, 1, false), (1, 1, false), (2, 1, false), (3, 1, false)], flat := true } := rfl
theorem ty108 : tyBy tyTab 108 = some { kind := .struct, size := 4, bytes := 80, zero := [.rows true [], .int .i64 0, .rows true [], .rows true []], fields := [(0, 3, true), (3, 1, false)] } := rfl
theorem ty109 : tyBy tyTab 109 = some { kind := .struct, size := 4, bytes := 80, zero := [.rows true [], .int .i64 0, .rows true [], .rows true []], fields := [(0, 3, true), (3, 1, false)] } := rfl
theorem ty110 : tyBy tyTab 110 = some { kind := .func, size := 1, bytes := 8, zero := [.nilfunc], fields := [] } := rfl
theorem ty111 : tyBy tyTab 111 = some { kind := .struct, size := 3, bytes := 48, zero := [.int .i64 0, .str [], .rows true []], fields := [(0, 1, false), (1, 1, false), (2, 1, false)] } := rfl
theorem ty112 : tyBy tyTab 112 = some { kind := .struct, size := 3, bytes := 48, zero := [.int .i64 0, .str [], .rows true []], fields := [(0, 1, false), (1, 1, false), (2, 1, false)] } := rfl
theorem ty114 : tyBy tyTab 114 = some { kind := .func, size := 1, bytes := 8, zero := [.nilfunc], fields := [] } := rfl
theorem ty115 : tyBy tyTab 115 = some { kind := .func, size := 1, bytes := 8, zero := [.nilfunc], fields := [] } := rfl
theorem ty116 : tyBy tyTab 116 = some { kind := .func, size := 1, bytes := 8, zero := [.nilfunc], fields := [] } := rfl
theorem ty117 : tyBy tyTab 117 = some { kind := .func, size := 1, bytes := 8, zero := [.nilfunc], fields := [] } := rfl
theorem ty118 : tyBy tyTab 118 = some { kind := .func, size := 1, bytes := 8, zero := [.nilfunc], fields := [] } := rfl
theorem ty119 : tyBy tyTab 119 = some { kind := .func, size := 1, bytes := 8, zero := [.nilfunc], fields := [] } := rfl
theorem ty121 : tyBy tyTab 121 = some { kind := .func, size := 1, bytes := 8, zero := [.nilfunc], fields := [] } := rfl
theorem ty122 : tyBy tyTab 122 = some { kind := .func, size := 1, bytes := 8, zero := [.nilfunc], fields := [] } := rfl
theorem ty123 : tyBy tyTab 123 = some { kind := .func, size := 1, bytes := 8, zero := [.nilfunc], fields := [] } := rfl
theorem ty125 : tyBy tyTab 125 = some { kind := .func, size := 1, bytes := 8, zero := [.nilfunc], fields := [] } := rfl
theorem ty127 : tyBy tyTab 127 = some { kind := .func, size := 1, bytes := 8, zero := [.nilfunc], fields := [] } := rfl
theorem ty128 : tyBy tyTab 128 = some { kind := .ptr 83, size := 1, bytes := 8, zero := [.nilptr], fields := [] } := rfl
theorem ty129 : tyBy tyTab 129 = some { kind := .func, size := 1, bytes := 8, zero := [.nilfunc], fields := [] } := rfl
theorem ty131 : tyBy tyTab 131 = some { kind := .func, size := 1, bytes := 8, zero := [.nilfunc], fields := [] } := rfl
theorem ty133 : tyBy tyTab 133 = some { kind := .func, size := 1, bytes := 8, zero := [.nilfunc], fields := [] } := rfl
theorem ty134 : tyBy tyTab 134 = some { kind := .int .u64, size := 1, bytes := 8, zero := [.int .u64 0], fields := [] } := rfl
theorem ty135 : tyBy tyTab 135 = some { kind := .func, size := 1, bytes := 8, zero := [.nilfunc], fields := [] } := rfl
theorem ty136 : tyBy tyTab 136 = some { kind := .func, size := 1, bytes := 8, zero := [.nilfunc], fields := [] } := rfl
theorem ty137 : tyBy tyTab 137 = some { kind := .func, size := 1, bytes := 8, zero := [.nilfunc], fields := [] } := rfl
theorem ty138 : tyBy tyTab 138 = some { kind := .func, size := 1, bytes := 8, zero := [.nilfunc], fields := [] } := rfl
theorem ty139 : tyBy tyTab 139 = some { kind := .func, size := 1, bytes := 8, zero := [.nilfunc], fields := [] } := rfl
theorem ty140 : tyBy tyTab 140 = some { kind := .slice 3, size := 1, bytes := 24, zero := [.rows true []], fields := [] } := rfl
theorem ty141 : tyBy tyTab 141 = some { kind := .func, size := 1, bytes := 8, zero := [.nilfunc], fields := [] } := rfl
theorem ty142 : tyBy tyTab 142 = some { kind := .func, size := 1, bytes := 8, zero := [.nilfunc], fields := [] } := rfl
theorem ty143 : tyBy tyTab 143 = some { kind := .func, size := 1, bytes := 8, zero := [.nilfunc], fields := [] } := rfl
theorem ty144 : tyBy tyTab 144 = some { kind := .func, size := 1, bytes := 8, zero := [.nilfunc], fields := [] } := rfl
theorem ty145 : tyBy tyTab 145 = some { kind := .func, size := 1, bytes := 8, zero := [.nilfunc], fields := [] } := rfl
theorem ty146 : tyBy tyTab 146 = some { kind := .func, size := 1, bytes := 8, zero := [.nilfunc], fields := [] } := rfl
theorem ty147 : tyBy tyTab 147 = some { kind := .func, size := 1, bytes := 8, zero := [.nilfunc], fields := [] } := rfl
theorem ty148 : tyBy tyTab 148 = some { kind := .func, size := 1, bytes := 8, zero := [.nilfunc], fields := [] } := rfl
theorem ty149 : tyBy tyTab 149 = some { kind := .func, size := 1, bytes := 8, zero := [.nilfunc], fields := [] } := rfl
theorem ty150 : tyBy tyTab 150 = some { kind := .func, size := 1, bytes := 8, zero := [.nilfunc], fields := [] } := rfl
theorem ty151 : tyBy tyTab 151 = some { kind := .func, size := 1, bytes := 8, zero := [.nilfunc], fields := [] } := rfl
theorem ty152 : tyBy tyTab 152 = some { kind := .func, size := 1, bytes := 8, zero := [.nilfunc], fields := [] } := rfl
theorem ty153 : tyBy tyTab 153 = some { kind := .func, size := 1, bytes := 8, zero := [.nilfunc], fields := [] } := rfl
theorem ty154 : tyBy tyTab 154 = some { kind := .func, size := 1, bytes := 8, zero := [.nilfunc], fields := [] } := rfl
theorem ty155 : tyBy tyTab 155 = some { kind := .func, size := 1, bytes := 8, zero := [.nilfunc], fields := [] } := rfl
theorem ty156 : tyBy tyTab 156 = some { kind := .func, size := 1, bytes := 8, zero := [.nilfunc], fields := [] } := rfl
theorem ty157 : tyBy tyTab 157 = some { kind := .func, size := 1, bytes := 8, zero := [.nilfunc], fields := [] } := rfl
theorem ty158 : tyBy tyTab 158 = some { kind := .func, size := 1, bytes := 8, zero := [.nilfunc], fields := [] } := rfl
theorem ty159 : tyBy tyTab 159 = some { kind := .func, size := 1, bytes := 8, zero := [.nilfunc], fields := [] } := rfl
theorem ty160 : tyBy tyTab 160 = some { kind := .func, size := 1, bytes := 8, zero := [.nilfunc], fields := [] } := rfl
theorem ty161 : tyBy tyTab 161 = some { kind := .func, size := 1, bytes := 8, zero := [.nilfunc], fields := [] } := rfl
theorem ty162 : tyBy tyTab 162 = some { kind := .func, size := 1, bytes := 8, zero := [.nilfunc], fields := [] } := rfl
theorem ty163 : tyBy tyTab 163 = some { kind := .func, size := 1, bytes := 8, zero := [.nilfunc], fields := [] } := rfl
theorem ty164 : tyBy tyTab 164 = some { kind := .func, size := 1, bytes := 8, zero := [.nilfunc], fields := [] } := rfl
theorem ty165 : tyBy tyTab 165 = some { kind := .func, size := 1, bytes := 8, zero := [.nilfunc], fields := [] } := rfl
theorem ty166 : tyBy tyTab 166 = some { kind := .func, size := 1, bytes := 8, zero := [.nilfunc], fields := [] } := rfl
theorem ty167 : tyBy tyTab 167 = some { kind := .func, size := 1, bytes := 8, zero := [.nilfunc], fields := [] } := rfl
theorem ty168 : tyBy tyTab 168 = some { kind := .func, size := 1, bytes := 8, zero := [.nilfunc], fields := [] } := rfl
theorem ty169 : tyBy tyTab 169 = some { kind := .func, size := 1, bytes := 8, zero := [.nilfunc], fields := [] } := rfl
theorem ty171 : tyBy tyTab 171 = some { kind := .func, size := 1, bytes := 8, zero := [.nilfunc], fields := [] } := rfl
theorem ty172 : tyBy tyTab 172 = some { kind := .func, size := 1, bytes := 8, zero := [.nilfunc], fields := [] } := rfl
theorem ty173 : tyBy tyTab 173 = some { kind := .func, size := 1, bytes := 8, zero := [.nilfunc], fields := [] } := rfl
theorem ty174 : tyBy tyTab 174 = some { kind := .func, size := 1, bytes := 8, zero := [.nilfunc], fields := [] } := rfl
theorem ty175 : tyBy tyTab 175 = some { kind := .func, size := 1, bytes := 8, zero := [.nilfunc], fields := [] } := rfl
theorem ty177 : tyBy tyTab 177 = some { kind := .func, size := 1, bytes := 8, zero := [.nilfunc], fields := [] } := rfl
theorem ty178 : tyBy tyTab 178 = some { kind := .func, size := 1, bytes := 8, zero := [.nilfunc], fields := [] } := rfl
theorem ty179 : tyBy tyTab 179 = some { kind := .func, size := 1, bytes := 8, zero := [.nilfunc], fields := [] } := rfl
theorem ty180 : tyBy tyTab 180 = some { kind := .func, size := 1, bytes := 8, zero := [.nilfunc], fields := [] } := rfl
theorem ty181 : tyBy tyTab 181 = some { kind := .func, size := 1, bytes := 8, zero := [.nilfunc], fields := [] } := rfl
theorem ty183 : tyBy tyTab 183 = some { kind := .func, size := 1, bytes := 8, zero := [.nilfunc], fields := [] } := rfl
theorem ty184 : tyBy tyTab 184 = some { kind := .func, size := 1, bytes := 8, zero := [.nilfunc], fields := [] } := rfl
theorem ty185 : tyBy tyTab 185 = some { kind := .func, size := 1, bytes := 8, zero := [.nilfunc], fields := [] } := rfl
theorem ty186 : tyBy tyTab 186 = some { kind := .func, size := 1, bytes := 8, zero := [.nilfunc], fields := [] } := rfl
theorem ty187 : tyBy tyTab 187 = some { kind := .func, size := 1, bytes := 8, zero := [.nilfunc], fields := [] } := rfl
theorem ty188 : tyBy tyTab 188 = some { kind := .func, size := 1, bytes := 8, zero := [.nilfunc], fields := [] } := rfl
theorem ty189 : tyBy tyTab 189 = some { kind := .func, size := 1, bytes := 8, zero := [.nilfunc], fields := [] } := rfl
theorem ty190 : tyBy tyTab 190 = some { kind := .func, size := 1, bytes := 8, zero := [.nilfunc], fields := [] } := rfl
theorem ty191 : tyBy tyTab 191 = some { kind := .func, size := 1, bytes := 8, zero := [.nilfunc], fields := [] } := rfl
theorem ty192 : tyBy tyTab 192 = some { kind := .func, size := 1, bytes := 8, zero := [.nilfunc], fields := [] } := rfl
theorem ty193 : tyBy tyTab 193 = some { kind := .func, size := 1, bytes := 8, zero := [.nilfunc], fields := [] } := rfl
theorem ty194 : tyBy tyTab 194 = some { kind := .func, size := 1, bytes := 8, zero := [.nilfunc], fields := [] } := rfl
theorem ty195 : tyBy tyTab 195 = some { kind := .func, size := 1, bytes := 8, zero := [.nilfunc], fields := [] } := rfl
theorem ty196 : tyBy tyTab 196 = some { kind := .func, size := 1, bytes := 8, zero := [.nilfunc], fields := [] } := rfl
theorem ty197 : tyBy tyTab 197 = some { kind := .func, size := 1, bytes := 8, zero := [.nilfunc], fields := [] } := rfl
theorem ty199 : tyBy tyTab 199 = some { kind := .func, size := 1, bytes := 8, zero := [.nilfunc], fields := [] } := rfl
theorem ty200 : tyBy tyTab 200 = some { kind := .func, size := 1, bytes := 8, zero := [.nilfunc], fields := [] } := rfl
theorem ty201 : tyBy tyTab 201 = some { kind := .func, size := 1, bytes := 8, zero := [.nilfunc], fields := [] } := rfl
theorem ty203 : tyBy tyTab 203 = some { kind := .struct, size := 2, bytes := 2, zero := [.int .u8 0, .int .u8 0], fields := [(0, 1, false), (1, 1, false)], flat := true } := rfl
theorem ty204 : tyBy tyTab 204 = some { kind := .struct, size := 2, bytes := 2, zero := [.int .u8 0, .int .u8 0], fields := [(0, 1, false), (1, 1, false)], flat := true } := rfl
theorem ty205 : tyBy tyTab 205 = some { kind := .array 16 204, size := 32, bytes := 32, zero := [.int .u8 0, .int .u8 0, .int .u8 0, .int .u8 0, .int .u8 0, .int .u8 0, .int .u8 0, .int .u8 0, .int .u8 0, .int .u8 0, .int .u8 0, .int .u8 0, .int .u8 0, .int .u8 0, .int .u8 0, .int .u8 0, .int .u8 0, .int .u8 0, .int .u8 0, .int .u8 0, .int .u8 0, .int .u8 0, .int .u8 0, .int .u8 0, .int .u8 0, .int .u8 0, .int .u8 0, .int .u8 0, .int .u8 0, .int .u8 0, .int .u8 0, .int .u8 0], fields := [] } := rfl
theorem ty206 : tyBy tyTab 206 = some { kind := .int .u32, size := 1, bytes := 4, zero := [.int .u32 0], fields := [] } := rfl
theorem ty208 : tyBy tyTab 208 = some { kind := .func, size := 1, bytes := 8, zero := [.nilfunc], fields := [] } := rfl
theorem ty209 : tyBy tyTab 209 = some { kind := .func, size := 1, bytes := 8, zero := [.nilfunc], fields := [] } := rfl
theorem ty210 : tyBy tyTab 210 = some { kind := .struct, size := 4, bytes := 40, zero := [.nilptr, .nilptr, .nilptr, .str []], fields := [(0, 1, false), (1, 1, false), (2, 1, false), (3, 1, false)] } := rfl
theorem ty211 : tyBy tyTab 211 = some { kind := .struct, size := 4, bytes := 40, zero := [.nilptr, .nilptr, .nilptr, .str []], fields := [(0, 1, false), (1, 1, false), (2, 1, false), (3, 1, false)] } := rfl
theorem ty212 : tyBy tyTab 212 = some { kind := .array 0 16, size := 0, bytes := 0, zero := [], fields := [] } := rfl
theorem ty213 : tyBy tyTab 213 = some { kind := .struct, size := 0, bytes := 0, zero := [], fields := [(0, 0, true)] } := rfl
theorem ty214 : tyBy tyTab 214 = some { kind := .struct, size := 0, bytes := 0, zero := [], fields := [(0, 0, true)] } := rfl
theorem ty215 : tyBy tyTab 215 = some { kind := .int .u8, size := 1, bytes := 1, zero := [.int .u8 0], fields := [] } := rfl
theorem ty216 : tyBy tyTab 216 = some { kind := .int .u8, size := 1, bytes := 1, zero := [.int .u8 0], fields := [] } := rfl
theorem ty217 : tyBy tyTab 217 = some { kind := .func, size := 1, bytes := 8, zero := [.nilfunc], fields := [] } := rfl
theorem ty218 : tyBy tyTab 218 = some { kind := .ptr 5, size := 1, bytes := 8, zero := [.nilptr], fields := [] } := rfl
theorem ty219 : tyBy tyTab 219 = some { kind := .int .i32, size := 1, bytes := 4, zero := [.int .i32 0], fields := [] } := rfl
theorem ty220 : tyBy tyTab 220 = some { kind := .int .i32, size := 1, bytes := 4, zero := [.int .i32 0], fields := [] } := rfl
theorem ty221 : tyBy tyTab 221 = some { kind := .struct, size := 11, bytes := 48, zero := [.int .u64 0, .int .u64 0, .int .u32 0, .int .u8 0, .int .u8 0, .int .u8 0, .int .u8 0, .nilfunc, .nilptr, .int .i32 0, .int .i32 0], fields := [(0, 1, false), (1, 1, false), (2, 1, false), (3, 1, false), (4, 1, false), (5, 1, false), (6, 1, false), (7, 1, false), (8, 1, false), (9, 1, false), (10, 1, false)] } := rfl
theorem ty222 : tyBy tyTab 222 = some { kind := .struct, size := 11, bytes := 48, zero := [.int .u64 0, .int .u64 0, .int .u32 0, .int .u8 0, .int .u8 0, .int .u8 0, .int .u8 0, .nilfunc, .nilptr, .int .i32 0, .int .i32 0], fields := [(0, 1, false), (1, 1, false), (2, 1, false), (3, 1, false), (4, 1, false), (5, 1, false), (6, 1, false), (7, 1, false), (8, 1, false), (9, 1, false), (10, 1, false)] } := rfl
end Go.Ab.Seat
