/- FnTrees: the operations of the region that looks at four leaves, and the order its values are ready in. -/
import Derived.Test.YtkpgelhmeokemaaTreeJ
import Derived.Test.YtkpgelhmeokemaaTrS
namespace Go.Proofs.Ytkpgelhmeokemaa
open Go Go.RowKit
set_option maxRecDepth 20000 in
def rst0 : List Oper := { dst := some 251, op := Op.move (Operand.tmp 17), type := 3, pos := "laws.go:902", after := #[], guard := none } ::
  { dst := some 252, op := Op.binOp BinOp.add 3 (Operand.tmp 251) (Operand.const (Value.int IntKind.i64 3)) 3, type := 3, pos := "laws.go:902", after := #[{ on := 0, ground := Ground.data }], guard := none } ::
  { dst := some 253, op := Op.move (Operand.tmp 11), type := 34, pos := "laws.go:902", after := #[], guard := none } ::
  { dst := some 254, op := Op.call { callee := Callee.builtin Builtin.len, args := #[Operand.tmp 253], argTypes := #[34] }, type := 3, pos := "laws.go:902", after := #[{ on := 2, ground := Ground.data }], guard := none } ::
  { dst := some 255, op := Op.binOp BinOp.lss 3 (Operand.tmp 252) (Operand.tmp 254) 3, type := 4, pos := "laws.go:902", after := #[{ on := 1, ground := Ground.data }, { on := 3, ground := Ground.data }], guard := none } ::
  { dst := some 256, op := Op.move (Operand.tmp 255), type := 4, pos := "laws.go:902", after := #[{ on := 4, ground := Ground.data }], guard := none } ::
  { dst := some 257, op := Op.move (Operand.tmp 11), type := 34, pos := "laws.go:902", after := #[{ on := 5, ground := Ground.guard }], guard := some (5, true) } ::
  { dst := some 258, op := Op.move (Operand.tmp 17), type := 3, pos := "laws.go:902", after := #[{ on := 5, ground := Ground.guard }], guard := some (5, true) } ::
  { dst := some 259, op := Op.indexAddr 34 (Operand.tmp 257) (Operand.tmp 258), type := 0, pos := "laws.go:902", after := #[{ on := 6, ground := Ground.data }, { on := 7, ground := Ground.data }, { on := 5, ground := Ground.guard }], guard := some (5, true) } ::
  { dst := some 260, op := Op.load 41 (Operand.tmp 259), type := 41, pos := "laws.go:902", after := #[{ on := 8, ground := Ground.data }, { on := 5, ground := Ground.guard }], guard := some (5, true) } ::
  { dst := some 261, op := Op.indexAddr 41 (Operand.tmp 260) (Operand.const (Value.int IntKind.i64 2)), type := 0, pos := "laws.go:902", after := #[{ on := 9, ground := Ground.data }, { on := 5, ground := Ground.guard }], guard := some (5, true) } ::
  { dst := some 262, op := Op.load 2 (Operand.tmp 261), type := 2, pos := "laws.go:902", after := #[{ on := 10, ground := Ground.data }, { on := 5, ground := Ground.guard }], guard := some (5, true) } ::
  { dst := some 263, op := Op.move (Operand.tmp 11), type := 34, pos := "laws.go:902", after := #[{ on := 5, ground := Ground.guard }], guard := some (5, true) } ::
  { dst := some 264, op := Op.move (Operand.tmp 17), type := 3, pos := "laws.go:902", after := #[{ on := 5, ground := Ground.guard }], guard := some (5, true) } ::
  { dst := some 265, op := Op.binOp BinOp.add 3 (Operand.tmp 264) (Operand.const (Value.int IntKind.i64 1)) 3, type := 3, pos := "laws.go:902", after := #[{ on := 13, ground := Ground.data }, { on := 5, ground := Ground.guard }], guard := some (5, true) } ::
  { dst := some 266, op := Op.indexAddr 34 (Operand.tmp 263) (Operand.tmp 265), type := 0, pos := "laws.go:902", after := #[{ on := 12, ground := Ground.data }, { on := 14, ground := Ground.data }, { on := 5, ground := Ground.guard }], guard := some (5, true) } ::
  { dst := some 267, op := Op.load 41 (Operand.tmp 266), type := 41, pos := "laws.go:902", after := #[{ on := 15, ground := Ground.data }, { on := 5, ground := Ground.guard }], guard := some (5, true) } ::
  { dst := some 268, op := Op.indexAddr 41 (Operand.tmp 267) (Operand.const (Value.int IntKind.i64 2)), type := 0, pos := "laws.go:902", after := #[{ on := 16, ground := Ground.data }, { on := 5, ground := Ground.guard }], guard := some (5, true) } ::
  { dst := some 269, op := Op.load 2 (Operand.tmp 268), type := 2, pos := "laws.go:902", after := #[{ on := 17, ground := Ground.data }, { on := 5, ground := Ground.guard }], guard := some (5, true) } ::
  { dst := some 270, op := Op.binOp BinOp.eql 2 (Operand.tmp 262) (Operand.tmp 269) 2, type := 4, pos := "laws.go:902", after := #[{ on := 11, ground := Ground.data }, { on := 18, ground := Ground.data }, { on := 5, ground := Ground.guard }], guard := some (5, true) } ::
  { dst := some 271, op := Op.pick (Operand.tmp 256) (Operand.tmp 270) (Operand.const (Value.bool false)), type := 4, pos := "laws.go:902", after := #[{ on := 5, ground := Ground.data }, { on := 19, ground := Ground.data }], guard := none } ::
  { dst := some 272, op := Op.move (Operand.tmp 271), type := 4, pos := "laws.go:902", after := #[{ on := 20, ground := Ground.data }, { on := 5, ground := Ground.chain }], guard := none } ::
  { dst := some 273, op := Op.move (Operand.tmp 11), type := 34, pos := "laws.go:902", after := #[{ on := 21, ground := Ground.guard }], guard := some (21, true) } ::
  { dst := some 274, op := Op.move (Operand.tmp 17), type := 3, pos := "laws.go:902", after := #[{ on := 21, ground := Ground.guard }], guard := some (21, true) } ::
  { dst := some 275, op := Op.indexAddr 34 (Operand.tmp 273) (Operand.tmp 274), type := 0, pos := "laws.go:902", after := #[{ on := 22, ground := Ground.data }, { on := 23, ground := Ground.data }, { on := 21, ground := Ground.guard }], guard := some (21, true) } ::
  { dst := some 276, op := Op.load 41 (Operand.tmp 275), type := 41, pos := "laws.go:902", after := #[{ on := 24, ground := Ground.data }, { on := 21, ground := Ground.guard }], guard := some (21, true) } ::
  { dst := some 277, op := Op.indexAddr 41 (Operand.tmp 276) (Operand.const (Value.int IntKind.i64 2)), type := 0, pos := "laws.go:902", after := #[{ on := 25, ground := Ground.data }, { on := 21, ground := Ground.guard }], guard := some (21, true) } ::
  { dst := some 278, op := Op.load 2 (Operand.tmp 277), type := 2, pos := "laws.go:902", after := #[{ on := 26, ground := Ground.data }, { on := 21, ground := Ground.guard }], guard := some (21, true) } ::
  { dst := some 279, op := Op.move (Operand.tmp 11), type := 34, pos := "laws.go:902", after := #[{ on := 21, ground := Ground.guard }], guard := some (21, true) } ::
  { dst := some 280, op := Op.move (Operand.tmp 17), type := 3, pos := "laws.go:902", after := #[{ on := 21, ground := Ground.guard }], guard := some (21, true) } ::
  { dst := some 281, op := Op.binOp BinOp.add 3 (Operand.tmp 280) (Operand.const (Value.int IntKind.i64 2)) 3, type := 3, pos := "laws.go:902", after := #[{ on := 29, ground := Ground.data }, { on := 21, ground := Ground.guard }], guard := some (21, true) } ::
  { dst := some 282, op := Op.indexAddr 34 (Operand.tmp 279) (Operand.tmp 281), type := 0, pos := "laws.go:902", after := #[{ on := 28, ground := Ground.data }, { on := 30, ground := Ground.data }, { on := 21, ground := Ground.guard }], guard := some (21, true) } ::
  { dst := some 283, op := Op.load 41 (Operand.tmp 282), type := 41, pos := "laws.go:902", after := #[{ on := 31, ground := Ground.data }, { on := 21, ground := Ground.guard }], guard := some (21, true) } ::
  { dst := some 284, op := Op.indexAddr 41 (Operand.tmp 283) (Operand.const (Value.int IntKind.i64 2)), type := 0, pos := "laws.go:902", after := #[{ on := 32, ground := Ground.data }, { on := 21, ground := Ground.guard }], guard := some (21, true) } ::
  { dst := some 285, op := Op.load 2 (Operand.tmp 284), type := 2, pos := "laws.go:902", after := #[{ on := 33, ground := Ground.data }, { on := 21, ground := Ground.guard }], guard := some (21, true) } ::
  { dst := some 286, op := Op.binOp BinOp.eql 2 (Operand.tmp 278) (Operand.tmp 285) 2, type := 4, pos := "laws.go:902", after := #[{ on := 27, ground := Ground.data }, { on := 34, ground := Ground.data }, { on := 21, ground := Ground.guard }], guard := some (21, true) } ::
  { dst := some 287, op := Op.pick (Operand.tmp 272) (Operand.tmp 286) (Operand.const (Value.bool false)), type := 4, pos := "laws.go:902", after := #[{ on := 21, ground := Ground.data }, { on := 35, ground := Ground.data }], guard := none } ::
  { dst := some 288, op := Op.move (Operand.tmp 287), type := 4, pos := "laws.go:902", after := #[{ on := 36, ground := Ground.data }, { on := 21, ground := Ground.chain }], guard := none } ::
  { dst := some 289, op := Op.move (Operand.tmp 11), type := 34, pos := "laws.go:902", after := #[{ on := 37, ground := Ground.guard }], guard := some (37, true) } ::
  { dst := some 290, op := Op.move (Operand.tmp 17), type := 3, pos := "laws.go:902", after := #[{ on := 37, ground := Ground.guard }], guard := some (37, true) } ::
  { dst := some 291, op := Op.indexAddr 34 (Operand.tmp 289) (Operand.tmp 290), type := 0, pos := "laws.go:902", after := #[{ on := 38, ground := Ground.data }, { on := 39, ground := Ground.data }, { on := 37, ground := Ground.guard }], guard := some (37, true) } ::
  { dst := some 292, op := Op.load 41 (Operand.tmp 291), type := 41, pos := "laws.go:902", after := #[{ on := 40, ground := Ground.data }, { on := 37, ground := Ground.guard }], guard := some (37, true) } ::
  { dst := some 293, op := Op.indexAddr 41 (Operand.tmp 292) (Operand.const (Value.int IntKind.i64 2)), type := 0, pos := "laws.go:902", after := #[{ on := 41, ground := Ground.data }, { on := 37, ground := Ground.guard }], guard := some (37, true) } ::
  { dst := some 294, op := Op.load 2 (Operand.tmp 293), type := 2, pos := "laws.go:902", after := #[{ on := 42, ground := Ground.data }, { on := 37, ground := Ground.guard }], guard := some (37, true) } ::
  { dst := some 295, op := Op.move (Operand.tmp 11), type := 34, pos := "laws.go:902", after := #[{ on := 37, ground := Ground.guard }], guard := some (37, true) } ::
  { dst := some 296, op := Op.move (Operand.tmp 17), type := 3, pos := "laws.go:902", after := #[{ on := 37, ground := Ground.guard }], guard := some (37, true) } ::
  { dst := some 297, op := Op.binOp BinOp.add 3 (Operand.tmp 296) (Operand.const (Value.int IntKind.i64 3)) 3, type := 3, pos := "laws.go:902", after := #[{ on := 45, ground := Ground.data }, { on := 37, ground := Ground.guard }], guard := some (37, true) } ::
  { dst := some 298, op := Op.indexAddr 34 (Operand.tmp 295) (Operand.tmp 297), type := 0, pos := "laws.go:902", after := #[{ on := 44, ground := Ground.data }, { on := 46, ground := Ground.data }, { on := 37, ground := Ground.guard }], guard := some (37, true) } ::
  { dst := some 299, op := Op.load 41 (Operand.tmp 298), type := 41, pos := "laws.go:902", after := #[{ on := 47, ground := Ground.data }, { on := 37, ground := Ground.guard }], guard := some (37, true) } ::
  { dst := some 300, op := Op.indexAddr 41 (Operand.tmp 299) (Operand.const (Value.int IntKind.i64 2)), type := 0, pos := "laws.go:902", after := #[{ on := 48, ground := Ground.data }, { on := 37, ground := Ground.guard }], guard := some (37, true) } ::
  { dst := some 301, op := Op.load 2 (Operand.tmp 300), type := 2, pos := "laws.go:902", after := #[{ on := 49, ground := Ground.data }, { on := 37, ground := Ground.guard }], guard := some (37, true) } ::
  { dst := some 302, op := Op.binOp BinOp.eql 2 (Operand.tmp 294) (Operand.tmp 301) 2, type := 4, pos := "laws.go:902", after := #[{ on := 43, ground := Ground.data }, { on := 50, ground := Ground.data }, { on := 37, ground := Ground.guard }], guard := some (37, true) } ::
  { dst := some 303, op := Op.pick (Operand.tmp 288) (Operand.tmp 302) (Operand.const (Value.bool false)), type := 4, pos := "laws.go:902", after := #[{ on := 37, ground := Ground.data }, { on := 51, ground := Ground.data }], guard := none } ::
  { dst := some 304, op := Op.move (Operand.tmp 303), type := 4, pos := "laws.go:902", after := #[{ on := 52, ground := Ground.data }, { on := 37, ground := Ground.chain }], guard := none } ::
  { dst := some 305, op := Op.move (Operand.tmp 11), type := 34, pos := "laws.go:902", after := #[{ on := 53, ground := Ground.guard }], guard := some (53, true) } ::
  { dst := some 306, op := Op.move (Operand.tmp 17), type := 3, pos := "laws.go:902", after := #[{ on := 53, ground := Ground.guard }], guard := some (53, true) } ::
  { dst := some 307, op := Op.indexAddr 34 (Operand.tmp 305) (Operand.tmp 306), type := 0, pos := "laws.go:902", after := #[{ on := 54, ground := Ground.data }, { on := 55, ground := Ground.data }, { on := 53, ground := Ground.guard }], guard := some (53, true) } ::
  { dst := some 308, op := Op.load 41 (Operand.tmp 307), type := 41, pos := "laws.go:902", after := #[{ on := 56, ground := Ground.data }, { on := 53, ground := Ground.guard }], guard := some (53, true) } ::
  { dst := some 309, op := Op.indexAddr 41 (Operand.tmp 308) (Operand.const (Value.int IntKind.i64 0)), type := 0, pos := "laws.go:902", after := #[{ on := 57, ground := Ground.data }, { on := 53, ground := Ground.guard }], guard := some (53, true) } ::
  { dst := some 310, op := Op.load 2 (Operand.tmp 309), type := 2, pos := "laws.go:902", after := #[{ on := 58, ground := Ground.data }, { on := 53, ground := Ground.guard }], guard := some (53, true) } ::
  { dst := some 311, op := Op.move (Operand.tmp 11), type := 34, pos := "laws.go:902", after := #[{ on := 53, ground := Ground.guard }], guard := some (53, true) } ::
  { dst := some 312, op := Op.move (Operand.tmp 17), type := 3, pos := "laws.go:902", after := #[{ on := 53, ground := Ground.guard }], guard := some (53, true) } ::
  { dst := some 313, op := Op.indexAddr 34 (Operand.tmp 311) (Operand.tmp 312), type := 0, pos := "laws.go:902", after := #[{ on := 60, ground := Ground.data }, { on := 61, ground := Ground.data }, { on := 53, ground := Ground.guard }], guard := some (53, true) } ::
  { dst := some 314, op := Op.load 41 (Operand.tmp 313), type := 41, pos := "laws.go:902", after := #[{ on := 62, ground := Ground.data }, { on := 53, ground := Ground.guard }], guard := some (53, true) } ::
  { dst := some 315, op := Op.indexAddr 41 (Operand.tmp 314) (Operand.const (Value.int IntKind.i64 2)), type := 0, pos := "laws.go:902", after := #[{ on := 63, ground := Ground.data }, { on := 53, ground := Ground.guard }], guard := some (53, true) } ::
  { dst := some 316, op := Op.load 2 (Operand.tmp 315), type := 2, pos := "laws.go:902", after := #[{ on := 64, ground := Ground.data }, { on := 53, ground := Ground.guard }], guard := some (53, true) } ::
  { dst := some 317, op := Op.binOp BinOp.mul 2 (Operand.const (Value.int IntKind.i64 2)) (Operand.tmp 316) 2, type := 2, pos := "laws.go:902", after := #[{ on := 65, ground := Ground.data }, { on := 53, ground := Ground.guard }], guard := some (53, true) } ::
  { dst := some 318, op := Op.binOp BinOp.rem 2 (Operand.tmp 310) (Operand.tmp 317) 2, type := 2, pos := "laws.go:902", after := #[{ on := 59, ground := Ground.data }, { on := 66, ground := Ground.data }, { on := 53, ground := Ground.guard }], guard := some (53, true) } ::
  { dst := some 319, op := Op.binOp BinOp.eql 2 (Operand.tmp 318) (Operand.const (Value.int IntKind.i64 0)) 2, type := 4, pos := "laws.go:902", after := #[{ on := 67, ground := Ground.data }, { on := 53, ground := Ground.guard }], guard := some (53, true) } ::
  { dst := some 320, op := Op.pick (Operand.tmp 304) (Operand.tmp 319) (Operand.const (Value.bool false)), type := 4, pos := "laws.go:902", after := #[{ on := 53, ground := Ground.data }, { on := 68, ground := Ground.data }], guard := none } ::
  { dst := some 321, op := Op.move (Operand.tmp 320), type := 4, pos := "laws.go:902", after := #[{ on := 69, ground := Ground.data }, { on := 53, ground := Ground.chain }], guard := none } ::
  { dst := some 322, op := Op.move (Operand.tmp 11), type := 34, pos := "laws.go:902", after := #[{ on := 70, ground := Ground.guard }], guard := some (70, true) } ::
  { dst := some 323, op := Op.move (Operand.tmp 17), type := 3, pos := "laws.go:902", after := #[{ on := 70, ground := Ground.guard }], guard := some (70, true) } ::
  { dst := some 324, op := Op.indexAddr 34 (Operand.tmp 322) (Operand.tmp 323), type := 0, pos := "laws.go:902", after := #[{ on := 71, ground := Ground.data }, { on := 72, ground := Ground.data }, { on := 70, ground := Ground.guard }], guard := some (70, true) } ::
  { dst := some 325, op := Op.load 41 (Operand.tmp 324), type := 41, pos := "laws.go:902", after := #[{ on := 73, ground := Ground.data }, { on := 70, ground := Ground.guard }], guard := some (70, true) } ::
  { dst := some 326, op := Op.indexAddr 41 (Operand.tmp 325) (Operand.const (Value.int IntKind.i64 1)), type := 0, pos := "laws.go:902", after := #[{ on := 74, ground := Ground.data }, { on := 70, ground := Ground.guard }], guard := some (70, true) } ::
  { dst := some 327, op := Op.load 2 (Operand.tmp 326), type := 2, pos := "laws.go:902", after := #[{ on := 75, ground := Ground.data }, { on := 70, ground := Ground.guard }], guard := some (70, true) } ::
  { dst := some 328, op := Op.move (Operand.tmp 11), type := 34, pos := "laws.go:902", after := #[{ on := 70, ground := Ground.guard }], guard := some (70, true) } ::
  { dst := some 329, op := Op.move (Operand.tmp 17), type := 3, pos := "laws.go:902", after := #[{ on := 70, ground := Ground.guard }], guard := some (70, true) } ::
  { dst := some 330, op := Op.indexAddr 34 (Operand.tmp 328) (Operand.tmp 329), type := 0, pos := "laws.go:902", after := #[{ on := 77, ground := Ground.data }, { on := 78, ground := Ground.data }, { on := 70, ground := Ground.guard }], guard := some (70, true) } ::
  { dst := some 331, op := Op.load 41 (Operand.tmp 330), type := 41, pos := "laws.go:902", after := #[{ on := 79, ground := Ground.data }, { on := 70, ground := Ground.guard }], guard := some (70, true) } ::
  { dst := some 332, op := Op.indexAddr 41 (Operand.tmp 331) (Operand.const (Value.int IntKind.i64 2)), type := 0, pos := "laws.go:902", after := #[{ on := 80, ground := Ground.data }, { on := 70, ground := Ground.guard }], guard := some (70, true) } ::
  { dst := some 333, op := Op.load 2 (Operand.tmp 332), type := 2, pos := "laws.go:902", after := #[{ on := 81, ground := Ground.data }, { on := 70, ground := Ground.guard }], guard := some (70, true) } ::
  { dst := some 334, op := Op.binOp BinOp.mul 2 (Operand.const (Value.int IntKind.i64 2)) (Operand.tmp 333) 2, type := 2, pos := "laws.go:902", after := #[{ on := 82, ground := Ground.data }, { on := 70, ground := Ground.guard }], guard := some (70, true) } ::
  { dst := some 335, op := Op.binOp BinOp.rem 2 (Operand.tmp 327) (Operand.tmp 334) 2, type := 2, pos := "laws.go:902", after := #[{ on := 76, ground := Ground.data }, { on := 83, ground := Ground.data }, { on := 70, ground := Ground.guard }], guard := some (70, true) } ::
  { dst := some 336, op := Op.binOp BinOp.eql 2 (Operand.tmp 335) (Operand.const (Value.int IntKind.i64 0)) 2, type := 4, pos := "laws.go:902", after := #[{ on := 84, ground := Ground.data }, { on := 70, ground := Ground.guard }], guard := some (70, true) } ::
  { dst := some 337, op := Op.pick (Operand.tmp 321) (Operand.tmp 336) (Operand.const (Value.bool false)), type := 4, pos := "laws.go:902", after := #[{ on := 70, ground := Ground.data }, { on := 85, ground := Ground.data }], guard := none } ::
  { dst := some 338, op := Op.move (Operand.tmp 337), type := 4, pos := "laws.go:902", after := #[{ on := 86, ground := Ground.data }, { on := 70, ground := Ground.chain }], guard := none } ::
  { dst := some 339, op := Op.move (Operand.tmp 11), type := 34, pos := "laws.go:902", after := #[{ on := 87, ground := Ground.guard }], guard := some (87, true) } ::
  { dst := some 340, op := Op.move (Operand.tmp 17), type := 3, pos := "laws.go:902", after := #[{ on := 87, ground := Ground.guard }], guard := some (87, true) } ::
  { dst := some 341, op := Op.indexAddr 34 (Operand.tmp 339) (Operand.tmp 340), type := 0, pos := "laws.go:902", after := #[{ on := 88, ground := Ground.data }, { on := 89, ground := Ground.data }, { on := 87, ground := Ground.guard }], guard := some (87, true) } ::
  { dst := some 342, op := Op.load 41 (Operand.tmp 341), type := 41, pos := "laws.go:902", after := #[{ on := 90, ground := Ground.data }, { on := 87, ground := Ground.guard }], guard := some (87, true) } ::
  { dst := some 343, op := Op.indexAddr 41 (Operand.tmp 342) (Operand.const (Value.int IntKind.i64 3)), type := 0, pos := "laws.go:902", after := #[{ on := 91, ground := Ground.data }, { on := 87, ground := Ground.guard }], guard := some (87, true) } ::
  { dst := some 344, op := Op.load 2 (Operand.tmp 343), type := 2, pos := "laws.go:902", after := #[{ on := 92, ground := Ground.data }, { on := 87, ground := Ground.guard }], guard := some (87, true) } ::
  { dst := some 345, op := Op.move (Operand.tmp 11), type := 34, pos := "laws.go:902", after := #[{ on := 87, ground := Ground.guard }], guard := some (87, true) } ::
  { dst := some 346, op := Op.move (Operand.tmp 17), type := 3, pos := "laws.go:902", after := #[{ on := 87, ground := Ground.guard }], guard := some (87, true) } ::
  { dst := some 347, op := Op.binOp BinOp.add 3 (Operand.tmp 346) (Operand.const (Value.int IntKind.i64 1)) 3, type := 3, pos := "laws.go:902", after := #[{ on := 95, ground := Ground.data }, { on := 87, ground := Ground.guard }], guard := some (87, true) } ::
  { dst := some 348, op := Op.indexAddr 34 (Operand.tmp 345) (Operand.tmp 347), type := 0, pos := "laws.go:902", after := #[{ on := 94, ground := Ground.data }, { on := 96, ground := Ground.data }, { on := 87, ground := Ground.guard }], guard := some (87, true) } ::
  { dst := some 349, op := Op.load 41 (Operand.tmp 348), type := 41, pos := "laws.go:902", after := #[{ on := 97, ground := Ground.data }, { on := 87, ground := Ground.guard }], guard := some (87, true) } ::
  { dst := some 350, op := Op.indexAddr 41 (Operand.tmp 349) (Operand.const (Value.int IntKind.i64 3)), type := 0, pos := "laws.go:902", after := #[{ on := 98, ground := Ground.data }, { on := 87, ground := Ground.guard }], guard := some (87, true) } ::
  { dst := some 351, op := Op.load 2 (Operand.tmp 350), type := 2, pos := "laws.go:902", after := #[{ on := 99, ground := Ground.data }, { on := 87, ground := Ground.guard }], guard := some (87, true) } ::
  { dst := some 352, op := Op.binOp BinOp.eql 2 (Operand.tmp 344) (Operand.tmp 351) 2, type := 4, pos := "laws.go:902", after := #[{ on := 93, ground := Ground.data }, { on := 100, ground := Ground.data }, { on := 87, ground := Ground.guard }], guard := some (87, true) } ::
  { dst := some 353, op := Op.pick (Operand.tmp 338) (Operand.tmp 352) (Operand.const (Value.bool false)), type := 4, pos := "laws.go:902", after := #[{ on := 87, ground := Ground.data }, { on := 101, ground := Ground.data }], guard := none } ::
  { dst := some 354, op := Op.move (Operand.tmp 353), type := 4, pos := "laws.go:902", after := #[{ on := 102, ground := Ground.data }, { on := 87, ground := Ground.chain }], guard := none } ::
  { dst := some 355, op := Op.move (Operand.tmp 11), type := 34, pos := "laws.go:902", after := #[{ on := 103, ground := Ground.guard }], guard := some (103, true) } ::
  { dst := some 356, op := Op.move (Operand.tmp 17), type := 3, pos := "laws.go:902", after := #[{ on := 103, ground := Ground.guard }], guard := some (103, true) } ::
  { dst := some 357, op := Op.indexAddr 34 (Operand.tmp 355) (Operand.tmp 356), type := 0, pos := "laws.go:902", after := #[{ on := 104, ground := Ground.data }, { on := 105, ground := Ground.data }, { on := 103, ground := Ground.guard }], guard := some (103, true) } ::
  { dst := some 358, op := Op.load 41 (Operand.tmp 357), type := 41, pos := "laws.go:902", after := #[{ on := 106, ground := Ground.data }, { on := 103, ground := Ground.guard }], guard := some (103, true) } ::
  { dst := some 359, op := Op.indexAddr 41 (Operand.tmp 358) (Operand.const (Value.int IntKind.i64 3)), type := 0, pos := "laws.go:902", after := #[{ on := 107, ground := Ground.data }, { on := 103, ground := Ground.guard }], guard := some (103, true) } ::
  { dst := some 360, op := Op.load 2 (Operand.tmp 359), type := 2, pos := "laws.go:902", after := #[{ on := 108, ground := Ground.data }, { on := 103, ground := Ground.guard }], guard := some (103, true) } ::
  { dst := some 361, op := Op.move (Operand.tmp 11), type := 34, pos := "laws.go:902", after := #[{ on := 103, ground := Ground.guard }], guard := some (103, true) } ::
  { dst := some 362, op := Op.move (Operand.tmp 17), type := 3, pos := "laws.go:902", after := #[{ on := 103, ground := Ground.guard }], guard := some (103, true) } ::
  { dst := some 363, op := Op.binOp BinOp.add 3 (Operand.tmp 362) (Operand.const (Value.int IntKind.i64 2)) 3, type := 3, pos := "laws.go:902", after := #[{ on := 111, ground := Ground.data }, { on := 103, ground := Ground.guard }], guard := some (103, true) } ::
  { dst := some 364, op := Op.indexAddr 34 (Operand.tmp 361) (Operand.tmp 363), type := 0, pos := "laws.go:902", after := #[{ on := 110, ground := Ground.data }, { on := 112, ground := Ground.data }, { on := 103, ground := Ground.guard }], guard := some (103, true) } ::
  { dst := some 365, op := Op.load 41 (Operand.tmp 364), type := 41, pos := "laws.go:902", after := #[{ on := 113, ground := Ground.data }, { on := 103, ground := Ground.guard }], guard := some (103, true) } ::
  { dst := some 366, op := Op.indexAddr 41 (Operand.tmp 365) (Operand.const (Value.int IntKind.i64 3)), type := 0, pos := "laws.go:902", after := #[{ on := 114, ground := Ground.data }, { on := 103, ground := Ground.guard }], guard := some (103, true) } ::
  { dst := some 367, op := Op.load 2 (Operand.tmp 366), type := 2, pos := "laws.go:902", after := #[{ on := 115, ground := Ground.data }, { on := 103, ground := Ground.guard }], guard := some (103, true) } ::
  { dst := some 368, op := Op.binOp BinOp.eql 2 (Operand.tmp 360) (Operand.tmp 367) 2, type := 4, pos := "laws.go:902", after := #[{ on := 109, ground := Ground.data }, { on := 116, ground := Ground.data }, { on := 103, ground := Ground.guard }], guard := some (103, true) } ::
  { dst := some 369, op := Op.pick (Operand.tmp 354) (Operand.tmp 368) (Operand.const (Value.bool false)), type := 4, pos := "laws.go:902", after := #[{ on := 103, ground := Ground.data }, { on := 117, ground := Ground.data }], guard := none } ::
  { dst := some 370, op := Op.move (Operand.tmp 369), type := 4, pos := "laws.go:902", after := #[{ on := 118, ground := Ground.data }, { on := 103, ground := Ground.chain }], guard := none } ::
  { dst := some 371, op := Op.move (Operand.tmp 11), type := 34, pos := "laws.go:902", after := #[{ on := 119, ground := Ground.guard }], guard := some (119, true) } ::
  { dst := some 372, op := Op.move (Operand.tmp 17), type := 3, pos := "laws.go:902", after := #[{ on := 119, ground := Ground.guard }], guard := some (119, true) } ::
  { dst := some 373, op := Op.indexAddr 34 (Operand.tmp 371) (Operand.tmp 372), type := 0, pos := "laws.go:902", after := #[{ on := 120, ground := Ground.data }, { on := 121, ground := Ground.data }, { on := 119, ground := Ground.guard }], guard := some (119, true) } ::
  { dst := some 374, op := Op.load 41 (Operand.tmp 373), type := 41, pos := "laws.go:902", after := #[{ on := 122, ground := Ground.data }, { on := 119, ground := Ground.guard }], guard := some (119, true) } ::
  { dst := some 375, op := Op.indexAddr 41 (Operand.tmp 374) (Operand.const (Value.int IntKind.i64 3)), type := 0, pos := "laws.go:902", after := #[{ on := 123, ground := Ground.data }, { on := 119, ground := Ground.guard }], guard := some (119, true) } ::
  { dst := some 376, op := Op.load 2 (Operand.tmp 375), type := 2, pos := "laws.go:902", after := #[{ on := 124, ground := Ground.data }, { on := 119, ground := Ground.guard }], guard := some (119, true) } ::
  { dst := some 377, op := Op.move (Operand.tmp 11), type := 34, pos := "laws.go:902", after := #[{ on := 119, ground := Ground.guard }], guard := some (119, true) } ::
  { dst := some 378, op := Op.move (Operand.tmp 17), type := 3, pos := "laws.go:902", after := #[{ on := 119, ground := Ground.guard }], guard := some (119, true) } ::
  { dst := some 379, op := Op.binOp BinOp.add 3 (Operand.tmp 378) (Operand.const (Value.int IntKind.i64 3)) 3, type := 3, pos := "laws.go:902", after := #[{ on := 127, ground := Ground.data }, { on := 119, ground := Ground.guard }], guard := some (119, true) } ::
  { dst := some 380, op := Op.indexAddr 34 (Operand.tmp 377) (Operand.tmp 379), type := 0, pos := "laws.go:902", after := #[{ on := 126, ground := Ground.data }, { on := 128, ground := Ground.data }, { on := 119, ground := Ground.guard }], guard := some (119, true) } ::
  { dst := some 381, op := Op.load 41 (Operand.tmp 380), type := 41, pos := "laws.go:902", after := #[{ on := 129, ground := Ground.data }, { on := 119, ground := Ground.guard }], guard := some (119, true) } ::
  { dst := some 382, op := Op.indexAddr 41 (Operand.tmp 381) (Operand.const (Value.int IntKind.i64 3)), type := 0, pos := "laws.go:902", after := #[{ on := 130, ground := Ground.data }, { on := 119, ground := Ground.guard }], guard := some (119, true) } ::
  { dst := some 383, op := Op.load 2 (Operand.tmp 382), type := 2, pos := "laws.go:902", after := #[{ on := 131, ground := Ground.data }, { on := 119, ground := Ground.guard }], guard := some (119, true) } ::
  { dst := some 384, op := Op.binOp BinOp.eql 2 (Operand.tmp 376) (Operand.tmp 383) 2, type := 4, pos := "laws.go:902", after := #[{ on := 125, ground := Ground.data }, { on := 132, ground := Ground.data }, { on := 119, ground := Ground.guard }], guard := some (119, true) } ::
  { dst := some 385, op := Op.pick (Operand.tmp 370) (Operand.tmp 384) (Operand.const (Value.bool false)), type := 4, pos := "laws.go:902", after := #[{ on := 119, ground := Ground.data }, { on := 133, ground := Ground.data }], guard := none } ::
  []
def lstB (k : Nat) : Array Bool := ((List.range 135).map fun i => decide (i < k)).toArray
def pcB (i : Nat) : Bool := (Region.ready .any rst0.toArray (lstB i)).contains i && Region.free .any rst0.toArray (lstB i) i
def grpB (a n : Nat) : Bool := (List.range n).all fun i => pcB (a + i)
theorem lstB_set {k : Nat} : (lstB k).setIfInBounds k true = lstB (k + 1) := by
  unfold lstB
  apply Array.ext
  · simp
  · intro i h1 h2
    have h3 : i < 135 := by simpa using h2
    by_cases hik : k = i
    · subst hik
      simp
    · simp [hik]
      omega
theorem pc_of {a n i : Nat} (h : grpB a n = true) (h1 : a ≤ i) (h2 : i < a + n) : pcB i = true := by
  unfold grpB at h
  rw [List.all_eq_true] at h
  have := h (i - a) (List.mem_range.2 (by omega))
  rwa [show a + (i - a) = i by omega] at this
theorem lex_go (hp : ∀ i, i < 135 → pcB i = true) (he : (Region.ready .any rst0.toArray (lstB 135)).isEmpty = true) : ∀ fuel k, k + fuel = 135 → Region.lexFrom .any rst0.toArray fuel k (lstB k) = true
  | 0, k, h => by
    have e : k = 135 := by omega
    subst e
    exact he
  | f + 1, k, h => by
    unfold Region.lexFrom
    have h1 := hp k (by omega)
    unfold pcB at h1
    rw [h1, Bool.true_and, lstB_set]
    exact lex_go hp he f (k + 1) (by omega)
set_option maxRecDepth 20000 in
theorem grp0 : grpB 0 5 = true := by kernel_rfl
set_option maxRecDepth 20000 in
theorem grp5 : grpB 5 5 = true := by kernel_rfl
set_option maxRecDepth 20000 in
theorem grp10 : grpB 10 5 = true := by kernel_rfl
set_option maxRecDepth 20000 in
theorem grp15 : grpB 15 5 = true := by kernel_rfl
set_option maxRecDepth 20000 in
theorem grp20 : grpB 20 5 = true := by kernel_rfl
set_option maxRecDepth 20000 in
theorem grp25 : grpB 25 5 = true := by kernel_rfl
set_option maxRecDepth 20000 in
theorem grp30 : grpB 30 5 = true := by kernel_rfl
set_option maxRecDepth 20000 in
theorem grp35 : grpB 35 5 = true := by kernel_rfl
set_option maxRecDepth 20000 in
theorem grp40 : grpB 40 5 = true := by kernel_rfl
set_option maxRecDepth 20000 in
theorem grp45 : grpB 45 5 = true := by kernel_rfl
set_option maxRecDepth 20000 in
theorem grp50 : grpB 50 5 = true := by kernel_rfl
set_option maxRecDepth 20000 in
theorem grp55 : grpB 55 5 = true := by kernel_rfl
set_option maxRecDepth 20000 in
theorem grp60 : grpB 60 5 = true := by kernel_rfl
set_option maxRecDepth 20000 in
theorem grp65 : grpB 65 5 = true := by kernel_rfl
set_option maxRecDepth 20000 in
theorem grp70 : grpB 70 5 = true := by kernel_rfl
set_option maxRecDepth 20000 in
theorem grp75 : grpB 75 5 = true := by kernel_rfl
set_option maxRecDepth 20000 in
theorem grp80 : grpB 80 5 = true := by kernel_rfl
set_option maxRecDepth 20000 in
theorem grp85 : grpB 85 5 = true := by kernel_rfl
set_option maxRecDepth 20000 in
theorem grp90 : grpB 90 5 = true := by kernel_rfl
set_option maxRecDepth 20000 in
theorem grp95 : grpB 95 5 = true := by kernel_rfl
set_option maxRecDepth 20000 in
theorem grp100 : grpB 100 5 = true := by kernel_rfl
set_option maxRecDepth 20000 in
theorem grp105 : grpB 105 5 = true := by kernel_rfl
set_option maxRecDepth 20000 in
theorem grp110 : grpB 110 5 = true := by kernel_rfl
set_option maxRecDepth 20000 in
theorem grp115 : grpB 115 5 = true := by kernel_rfl
set_option maxRecDepth 20000 in
theorem grp120 : grpB 120 5 = true := by kernel_rfl
set_option maxRecDepth 20000 in
theorem grp125 : grpB 125 5 = true := by kernel_rfl
set_option maxRecDepth 20000 in
theorem grp130 : grpB 130 5 = true := by kernel_rfl
set_option maxRecDepth 20000 in
theorem grpE : (Region.ready .any rst0.toArray (lstB 135)).isEmpty = true := by kernel_rfl
set_option maxRecDepth 20000 in
theorem grpN : Region.noSelect rst0.toArray = true := by kernel_rfl
theorem pc_all (i : Nat) (hi : i < 135) : pcB i = true := by
  by_cases h0 : i < 5
  · exact pc_of grp0 (by omega) (by omega)
  by_cases h5 : i < 10
  · exact pc_of grp5 (by omega) (by omega)
  by_cases h10 : i < 15
  · exact pc_of grp10 (by omega) (by omega)
  by_cases h15 : i < 20
  · exact pc_of grp15 (by omega) (by omega)
  by_cases h20 : i < 25
  · exact pc_of grp20 (by omega) (by omega)
  by_cases h25 : i < 30
  · exact pc_of grp25 (by omega) (by omega)
  by_cases h30 : i < 35
  · exact pc_of grp30 (by omega) (by omega)
  by_cases h35 : i < 40
  · exact pc_of grp35 (by omega) (by omega)
  by_cases h40 : i < 45
  · exact pc_of grp40 (by omega) (by omega)
  by_cases h45 : i < 50
  · exact pc_of grp45 (by omega) (by omega)
  by_cases h50 : i < 55
  · exact pc_of grp50 (by omega) (by omega)
  by_cases h55 : i < 60
  · exact pc_of grp55 (by omega) (by omega)
  by_cases h60 : i < 65
  · exact pc_of grp60 (by omega) (by omega)
  by_cases h65 : i < 70
  · exact pc_of grp65 (by omega) (by omega)
  by_cases h70 : i < 75
  · exact pc_of grp70 (by omega) (by omega)
  by_cases h75 : i < 80
  · exact pc_of grp75 (by omega) (by omega)
  by_cases h80 : i < 85
  · exact pc_of grp80 (by omega) (by omega)
  by_cases h85 : i < 90
  · exact pc_of grp85 (by omega) (by omega)
  by_cases h90 : i < 95
  · exact pc_of grp90 (by omega) (by omega)
  by_cases h95 : i < 100
  · exact pc_of grp95 (by omega) (by omega)
  by_cases h100 : i < 105
  · exact pc_of grp100 (by omega) (by omega)
  by_cases h105 : i < 110
  · exact pc_of grp105 (by omega) (by omega)
  by_cases h110 : i < 115
  · exact pc_of grp110 (by omega) (by omega)
  by_cases h115 : i < 120
  · exact pc_of grp115 (by omega) (by omega)
  by_cases h120 : i < 125
  · exact pc_of grp120 (by omega) (by omega)
  by_cases h125 : i < 130
  · exact pc_of grp125 (by omega) (by omega)
  by_cases h130 : i < 135
  · exact pc_of grp130 (by omega) (by omega)
  omega
set_option maxRecDepth 20000 in
theorem lexR : Region.lexB .any rst0.toArray = true := by
  unfold Region.lexB
  rw [grpN, Bool.true_and]
  have e : Array.replicate rst0.toArray.size false = lstB 0 := by
    have h : rst0.toArray.size = 135 := by kernel_rfl
    rw [h]
    unfold lstB
    apply Array.ext <;> simp
  have h : rst0.toArray.size = 135 := by kernel_rfl
  rw [e, h]
  exact lex_go pc_all grpE 135 0 (by omega)
end Go.Proofs.Ytkpgelhmeokemaa
