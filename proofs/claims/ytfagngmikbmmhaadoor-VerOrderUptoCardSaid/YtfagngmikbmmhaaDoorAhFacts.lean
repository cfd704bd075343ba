/- Closed facts on the types of this seat's program (printed by a program). -/
import Derived.Test.YtfagngmikbmmhaaDoorAhTac
import Derived.Test.YtfagngmikbmmhaaDoorProg
namespace Go.Proofs.YtfagngmikbmmhaaDoor.A
open Go Go.RowKit
set_option maxRecDepth 100000
theorem mixed_ok : Tryd.prog.follows .mixedOrders = true := by kernel_rfl
theorem tyS0 : tySize Tryd.prog 0 = some 1 := by kernel_rfl
theorem tyA0 : tyAgg Tryd.prog 0 = some false := by kernel_rfl
theorem F0 : (tySize Tryd.prog 0 = some 1) ∧ (tyAgg Tryd.prog 0 = some false) ∧ (Tryd.prog.underlying 0 = some (Go.TypeDesc.tuple #[])) := And.intro tyS0 (And.intro tyA0 (Tryd.underlying0))
theorem tyS1 : tySize Tryd.prog 1 = some 1 := by kernel_rfl
theorem tyA1 : tyAgg Tryd.prog 1 = some false := by kernel_rfl
theorem zV1 : zerosV Tryd.prog 1 = some [.exact Go.Value.nilFunc] := by kernel_rfl
theorem F1 : (tySize Tryd.prog 1 = some 1) ∧ (tyAgg Tryd.prog 1 = some false) ∧ (zerosV Tryd.prog 1 = some [.exact Go.Value.nilFunc]) ∧ (Tryd.prog.underlying 1 = some (Go.TypeDesc.func #[] #[] false)) := And.intro tyS1 (And.intro tyA1 (And.intro zV1 (Tryd.underlying1)))
theorem tyS2 : tySize Tryd.prog 2 = some 1 := by kernel_rfl
theorem tyA2 : tyAgg Tryd.prog 2 = some false := by kernel_rfl
theorem zV2 : zerosV Tryd.prog 2 = some [.int .i64 0] := by kernel_rfl
theorem F2 : (tySize Tryd.prog 2 = some 1) ∧ (tyAgg Tryd.prog 2 = some false) ∧ (zerosV Tryd.prog 2 = some [.int .i64 0]) ∧ (Tryd.prog.underlying 2 = some (Go.TypeDesc.int Go.IntKind.i64)) := And.intro tyS2 (And.intro tyA2 (And.intro zV2 (Tryd.underlying2)))
theorem tyS3 : tySize Tryd.prog 3 = some 1 := by kernel_rfl
theorem tyA3 : tyAgg Tryd.prog 3 = some false := by kernel_rfl
theorem zV3 : zerosV Tryd.prog 3 = some [.int .i64 0] := by kernel_rfl
theorem F3 : (tySize Tryd.prog 3 = some 1) ∧ (tyAgg Tryd.prog 3 = some false) ∧ (zerosV Tryd.prog 3 = some [.int .i64 0]) ∧ (Tryd.prog.underlying 3 = some (Go.TypeDesc.int Go.IntKind.i64)) := And.intro tyS3 (And.intro tyA3 (And.intro zV3 (Tryd.underlying3)))
theorem tyS4 : tySize Tryd.prog 4 = some 1 := by kernel_rfl
theorem tyA4 : tyAgg Tryd.prog 4 = some false := by kernel_rfl
theorem zV4 : zerosV Tryd.prog 4 = some [.bool false] := by kernel_rfl
theorem F4 : (tySize Tryd.prog 4 = some 1) ∧ (tyAgg Tryd.prog 4 = some false) ∧ (zerosV Tryd.prog 4 = some [.bool false]) ∧ (Tryd.prog.underlying 4 = some Go.TypeDesc.bool) := And.intro tyS4 (And.intro tyA4 (And.intro zV4 (Tryd.underlying4)))
theorem tyS5 : tySize Tryd.prog 5 = some 1 := by kernel_rfl
theorem tyA5 : tyAgg Tryd.prog 5 = some false := by kernel_rfl
theorem zV5 : zerosV Tryd.prog 5 = some [.int .u8 0] := by kernel_rfl
theorem F5 : (tySize Tryd.prog 5 = some 1) ∧ (tyAgg Tryd.prog 5 = some false) ∧ (zerosV Tryd.prog 5 = some [.int .u8 0]) ∧ (Tryd.prog.underlying 5 = some (Go.TypeDesc.int Go.IntKind.u8)) := And.intro tyS5 (And.intro tyA5 (And.intro zV5 (Tryd.underlying5)))
theorem tyS6 : tySize Tryd.prog 6 = some 1 := by kernel_rfl
theorem tyA6 : tyAgg Tryd.prog 6 = some false := by kernel_rfl
theorem zV6 : zerosV Tryd.prog 6 = some [.int .u8 0] := by kernel_rfl
theorem F6 : (tySize Tryd.prog 6 = some 1) ∧ (tyAgg Tryd.prog 6 = some false) ∧ (zerosV Tryd.prog 6 = some [.int .u8 0]) ∧ (Tryd.prog.underlying 6 = some (Go.TypeDesc.int Go.IntKind.u8)) := And.intro tyS6 (And.intro tyA6 (And.intro zV6 (Tryd.underlying6)))
theorem tyS7 : tySize Tryd.prog 7 = some 4 := by kernel_rfl
theorem tyA7 : tyAgg Tryd.prog 7 = some true := by kernel_rfl
theorem zV7 : zerosV Tryd.prog 7 = some [.int .i64 0, .int .i64 0, .bool false, .int .u8 0] := by kernel_rfl
theorem pl7 : places Tryd.prog 7 = some [(0, 1), (1, 1), (2, 1), (3, 1)] := by kernel_rfl
theorem fl7_0 : fld Tryd.prog 7 0 = some (0, 2) := by kernel_rfl
theorem fl7_1 : fld Tryd.prog 7 1 = some (1, 3) := by kernel_rfl
theorem fl7_2 : fld Tryd.prog 7 2 = some (2, 4) := by kernel_rfl
theorem fl7_3 : fld Tryd.prog 7 3 = some (3, 6) := by kernel_rfl
theorem F7 : (tySize Tryd.prog 7 = some 4) ∧ (tyAgg Tryd.prog 7 = some true) ∧ (zerosV Tryd.prog 7 = some [.int .i64 0, .int .i64 0, .bool false, .int .u8 0]) ∧ (places Tryd.prog 7 = some [(0, 1), (1, 1), (2, 1), (3, 1)]) ∧ (fld Tryd.prog 7 0 = some (0, 2)) ∧ (fld Tryd.prog 7 1 = some (1, 3)) ∧ (fld Tryd.prog 7 2 = some (2, 4)) ∧ (fld Tryd.prog 7 3 = some (3, 6)) ∧ (Tryd.prog.underlying 7 = some (Go.TypeDesc.struct #[{ name := "x", type := 2, offset := 0, embedded := false, tag := "", pkgPath := "runtime", byteOffset := 0 }, { name := "y", type := 3, offset := 1, embedded := false, tag := "", pkgPath := "runtime", byteOffset := 8 }, { name := "signed", type := 4, offset := 2, embedded := false, tag := "", pkgPath := "runtime", byteOffset := 16 }, { name := "code", type := 6, offset := 3, embedded := false, tag := "", pkgPath := "runtime", byteOffset := 17 }])) := And.intro tyS7 (And.intro tyA7 (And.intro zV7 (And.intro pl7 (And.intro fl7_0 (And.intro fl7_1 (And.intro fl7_2 (And.intro fl7_3 (Tryd.underlying7))))))))
theorem tyS8 : tySize Tryd.prog 8 = some 4 := by kernel_rfl
theorem tyA8 : tyAgg Tryd.prog 8 = some true := by kernel_rfl
theorem zV8 : zerosV Tryd.prog 8 = some [.int .i64 0, .int .i64 0, .bool false, .int .u8 0] := by kernel_rfl
theorem pl8 : places Tryd.prog 8 = some [(0, 1), (1, 1), (2, 1), (3, 1)] := by kernel_rfl
theorem fl8_0 : fld Tryd.prog 8 0 = some (0, 2) := by kernel_rfl
theorem fl8_1 : fld Tryd.prog 8 1 = some (1, 3) := by kernel_rfl
theorem fl8_2 : fld Tryd.prog 8 2 = some (2, 4) := by kernel_rfl
theorem fl8_3 : fld Tryd.prog 8 3 = some (3, 6) := by kernel_rfl
theorem F8 : (tySize Tryd.prog 8 = some 4) ∧ (tyAgg Tryd.prog 8 = some true) ∧ (zerosV Tryd.prog 8 = some [.int .i64 0, .int .i64 0, .bool false, .int .u8 0]) ∧ (places Tryd.prog 8 = some [(0, 1), (1, 1), (2, 1), (3, 1)]) ∧ (fld Tryd.prog 8 0 = some (0, 2)) ∧ (fld Tryd.prog 8 1 = some (1, 3)) ∧ (fld Tryd.prog 8 2 = some (2, 4)) ∧ (fld Tryd.prog 8 3 = some (3, 6)) ∧ (Tryd.prog.underlying 8 = some (Go.TypeDesc.struct #[{ name := "x", type := 2, offset := 0, embedded := false, tag := "", pkgPath := "runtime", byteOffset := 0 }, { name := "y", type := 3, offset := 1, embedded := false, tag := "", pkgPath := "runtime", byteOffset := 8 }, { name := "signed", type := 4, offset := 2, embedded := false, tag := "", pkgPath := "runtime", byteOffset := 16 }, { name := "code", type := 6, offset := 3, embedded := false, tag := "", pkgPath := "runtime", byteOffset := 17 }])) := And.intro tyS8 (And.intro tyA8 (And.intro zV8 (And.intro pl8 (And.intro fl8_0 (And.intro fl8_1 (And.intro fl8_2 (And.intro fl8_3 (Tryd.underlying8))))))))
theorem tyS9 : tySize Tryd.prog 9 = some 1 := by kernel_rfl
theorem tyA9 : tyAgg Tryd.prog 9 = some false := by kernel_rfl
theorem zV9 : zerosV Tryd.prog 9 = some [.str []] := by kernel_rfl
theorem F9 : (tySize Tryd.prog 9 = some 1) ∧ (tyAgg Tryd.prog 9 = some false) ∧ (zerosV Tryd.prog 9 = some [.str []]) ∧ (Tryd.prog.underlying 9 = some Go.TypeDesc.string) := And.intro tyS9 (And.intro tyA9 (And.intro zV9 (Tryd.underlying9)))
theorem tyS10 : tySize Tryd.prog 10 = some 1 := by kernel_rfl
theorem tyA10 : tyAgg Tryd.prog 10 = some false := by kernel_rfl
theorem zV10 : zerosV Tryd.prog 10 = some [.str []] := by kernel_rfl
theorem F10 : (tySize Tryd.prog 10 = some 1) ∧ (tyAgg Tryd.prog 10 = some false) ∧ (zerosV Tryd.prog 10 = some [.str []]) ∧ (Tryd.prog.underlying 10 = some Go.TypeDesc.string) := And.intro tyS10 (And.intro tyA10 (And.intro zV10 (Tryd.underlying10)))
theorem tyS11 : tySize Tryd.prog 11 = some 1 := by kernel_rfl
theorem tyA11 : tyAgg Tryd.prog 11 = some false := by kernel_rfl
theorem zV11 : zerosV Tryd.prog 11 = some [.str []] := by kernel_rfl
theorem F11 : (tySize Tryd.prog 11 = some 1) ∧ (tyAgg Tryd.prog 11 = some false) ∧ (zerosV Tryd.prog 11 = some [.str []]) ∧ (Tryd.prog.underlying 11 = some Go.TypeDesc.string) := And.intro tyS11 (And.intro tyA11 (And.intro zV11 (Tryd.underlying11)))
theorem tyS12 : tySize Tryd.prog 12 = some 1 := by kernel_rfl
theorem tyA12 : tyAgg Tryd.prog 12 = some false := by kernel_rfl
theorem zV12 : zerosV Tryd.prog 12 = some [.int .u64 0] := by kernel_rfl
theorem F12 : (tySize Tryd.prog 12 = some 1) ∧ (tyAgg Tryd.prog 12 = some false) ∧ (zerosV Tryd.prog 12 = some [.int .u64 0]) ∧ (Tryd.prog.underlying 12 = some (Go.TypeDesc.int Go.IntKind.u64)) := And.intro tyS12 (And.intro tyA12 (And.intro zV12 (Tryd.underlying12)))
theorem tyS13 : tySize Tryd.prog 13 = some 2 := by kernel_rfl
theorem tyA13 : tyAgg Tryd.prog 13 = some true := by kernel_rfl
theorem zV13 : zerosV Tryd.prog 13 = some [.str [], .int .u64 0] := by kernel_rfl
theorem pl13 : places Tryd.prog 13 = some [(0, 1), (1, 1)] := by kernel_rfl
theorem fl13_0 : fld Tryd.prog 13 0 = some (0, 9) := by kernel_rfl
theorem fl13_1 : fld Tryd.prog 13 1 = some (1, 12) := by kernel_rfl
theorem F13 : (tySize Tryd.prog 13 = some 2) ∧ (tyAgg Tryd.prog 13 = some true) ∧ (zerosV Tryd.prog 13 = some [.str [], .int .u64 0]) ∧ (places Tryd.prog 13 = some [(0, 1), (1, 1)]) ∧ (fld Tryd.prog 13 0 = some (0, 9)) ∧ (fld Tryd.prog 13 1 = some (1, 12)) ∧ (Tryd.prog.underlying 13 = some (Go.TypeDesc.struct #[{ name := "msg", type := 9, offset := 0, embedded := false, tag := "", pkgPath := "runtime", byteOffset := 0 }, { name := "addr", type := 12, offset := 1, embedded := false, tag := "", pkgPath := "runtime", byteOffset := 16 }])) := And.intro tyS13 (And.intro tyA13 (And.intro zV13 (And.intro pl13 (And.intro fl13_0 (And.intro fl13_1 (Tryd.underlying13))))))
theorem tyS14 : tySize Tryd.prog 14 = some 2 := by kernel_rfl
theorem tyA14 : tyAgg Tryd.prog 14 = some true := by kernel_rfl
theorem zV14 : zerosV Tryd.prog 14 = some [.str [], .int .u64 0] := by kernel_rfl
theorem pl14 : places Tryd.prog 14 = some [(0, 1), (1, 1)] := by kernel_rfl
theorem fl14_0 : fld Tryd.prog 14 0 = some (0, 9) := by kernel_rfl
theorem fl14_1 : fld Tryd.prog 14 1 = some (1, 12) := by kernel_rfl
theorem F14 : (tySize Tryd.prog 14 = some 2) ∧ (tyAgg Tryd.prog 14 = some true) ∧ (zerosV Tryd.prog 14 = some [.str [], .int .u64 0]) ∧ (places Tryd.prog 14 = some [(0, 1), (1, 1)]) ∧ (fld Tryd.prog 14 0 = some (0, 9)) ∧ (fld Tryd.prog 14 1 = some (1, 12)) ∧ (Tryd.prog.underlying 14 = some (Go.TypeDesc.struct #[{ name := "msg", type := 9, offset := 0, embedded := false, tag := "", pkgPath := "runtime", byteOffset := 0 }, { name := "addr", type := 12, offset := 1, embedded := false, tag := "", pkgPath := "runtime", byteOffset := 16 }])) := And.intro tyS14 (And.intro tyA14 (And.intro zV14 (And.intro pl14 (And.intro fl14_0 (And.intro fl14_1 (Tryd.underlying14))))))
theorem tyS15 : tySize Tryd.prog 15 = some 1 := by kernel_rfl
theorem tyA15 : tyAgg Tryd.prog 15 = some false := by kernel_rfl
theorem zV15 : zerosV Tryd.prog 15 = some [.exact (Go.Value.pointer none)] := by kernel_rfl
theorem F15 : (tySize Tryd.prog 15 = some 1) ∧ (tyAgg Tryd.prog 15 = some false) ∧ (zerosV Tryd.prog 15 = some [.exact (Go.Value.pointer none)]) ∧ (Tryd.prog.underlying 15 = some (Go.TypeDesc.pointer 127)) := And.intro tyS15 (And.intro tyA15 (And.intro zV15 (Tryd.underlying15)))
theorem tyS16 : tySize Tryd.prog 16 = some 1 := by kernel_rfl
theorem tyA16 : tyAgg Tryd.prog 16 = some false := by kernel_rfl
theorem zV16 : zerosV Tryd.prog 16 = some [.exact (Go.Value.pointer none)] := by kernel_rfl
theorem F16 : (tySize Tryd.prog 16 = some 1) ∧ (tyAgg Tryd.prog 16 = some false) ∧ (zerosV Tryd.prog 16 = some [.exact (Go.Value.pointer none)]) ∧ (Tryd.prog.underlying 16 = some (Go.TypeDesc.pointer 130)) := And.intro tyS16 (And.intro tyA16 (And.intro zV16 (Tryd.underlying16)))
theorem tyS17 : tySize Tryd.prog 17 = some 1 := by kernel_rfl
theorem tyA17 : tyAgg Tryd.prog 17 = some false := by kernel_rfl
theorem zV17 : zerosV Tryd.prog 17 = some [.exact (Go.Value.pointer none)] := by kernel_rfl
theorem F17 : (tySize Tryd.prog 17 = some 1) ∧ (tyAgg Tryd.prog 17 = some false) ∧ (zerosV Tryd.prog 17 = some [.exact (Go.Value.pointer none)]) ∧ (Tryd.prog.underlying 17 = some (Go.TypeDesc.pointer 138)) := And.intro tyS17 (And.intro tyA17 (And.intro zV17 (Tryd.underlying17)))
theorem tyS18 : tySize Tryd.prog 18 = some 1 := by kernel_rfl
theorem tyA18 : tyAgg Tryd.prog 18 = some true := by kernel_rfl
theorem zV18 : zerosV Tryd.prog 18 = some [.exact (Go.Value.pointer none)] := by kernel_rfl
theorem pl18 : places Tryd.prog 18 = some [(0, 1)] := by kernel_rfl
theorem fl18_0 : fld Tryd.prog 18 0 = some (0, 17) := by kernel_rfl
theorem F18 : (tySize Tryd.prog 18 = some 1) ∧ (tyAgg Tryd.prog 18 = some true) ∧ (zerosV Tryd.prog 18 = some [.exact (Go.Value.pointer none)]) ∧ (places Tryd.prog 18 = some [(0, 1)]) ∧ (fld Tryd.prog 18 0 = some (0, 17)) ∧ (Tryd.prog.underlying 18 = some (Go.TypeDesc.struct #[{ name := "typ", type := 17, offset := 0, embedded := false, tag := "", pkgPath := "internal/runtime/maps", byteOffset := 0 }])) := And.intro tyS18 (And.intro tyA18 (And.intro zV18 (And.intro pl18 (And.intro fl18_0 (Tryd.underlying18)))))
theorem tyS19 : tySize Tryd.prog 19 = some 1 := by kernel_rfl
theorem tyA19 : tyAgg Tryd.prog 19 = some true := by kernel_rfl
theorem zV19 : zerosV Tryd.prog 19 = some [.exact (Go.Value.pointer none)] := by kernel_rfl
theorem pl19 : places Tryd.prog 19 = some [(0, 1)] := by kernel_rfl
theorem fl19_0 : fld Tryd.prog 19 0 = some (0, 17) := by kernel_rfl
theorem F19 : (tySize Tryd.prog 19 = some 1) ∧ (tyAgg Tryd.prog 19 = some true) ∧ (zerosV Tryd.prog 19 = some [.exact (Go.Value.pointer none)]) ∧ (places Tryd.prog 19 = some [(0, 1)]) ∧ (fld Tryd.prog 19 0 = some (0, 17)) ∧ (Tryd.prog.underlying 19 = some (Go.TypeDesc.struct #[{ name := "typ", type := 17, offset := 0, embedded := false, tag := "", pkgPath := "internal/runtime/maps", byteOffset := 0 }])) := And.intro tyS19 (And.intro tyA19 (And.intro zV19 (And.intro pl19 (And.intro fl19_0 (Tryd.underlying19)))))
theorem tyS20 : tySize Tryd.prog 20 = some 1 := by kernel_rfl
theorem tyA20 : tyAgg Tryd.prog 20 = some false := by kernel_rfl
theorem zV20 : zerosV Tryd.prog 20 = some [.exact Go.Value.nilIface] := by kernel_rfl
theorem F20 : (tySize Tryd.prog 20 = some 1) ∧ (tyAgg Tryd.prog 20 = some false) ∧ (zerosV Tryd.prog 20 = some [.exact Go.Value.nilIface]) := And.intro tyS20 (And.intro tyA20 (zV20))
theorem tyS21 : tySize Tryd.prog 21 = some 1 := by kernel_rfl
theorem tyA21 : tyAgg Tryd.prog 21 = some false := by kernel_rfl
theorem zV21 : zerosV Tryd.prog 21 = some [.int .i32 0] := by kernel_rfl
theorem F21 : (tySize Tryd.prog 21 = some 1) ∧ (tyAgg Tryd.prog 21 = some false) ∧ (zerosV Tryd.prog 21 = some [.int .i32 0]) ∧ (Tryd.prog.underlying 21 = some (Go.TypeDesc.int Go.IntKind.i32)) := And.intro tyS21 (And.intro tyA21 (And.intro zV21 (Tryd.underlying21)))
theorem tyS22 : tySize Tryd.prog 22 = some 1 := by kernel_rfl
theorem tyA22 : tyAgg Tryd.prog 22 = some false := by kernel_rfl
theorem zV22 : zerosV Tryd.prog 22 = some [.exact Go.Value.nilFunc] := by kernel_rfl
theorem F22 : (tySize Tryd.prog 22 = some 1) ∧ (tyAgg Tryd.prog 22 = some false) ∧ (zerosV Tryd.prog 22 = some [.exact Go.Value.nilFunc]) ∧ (Tryd.prog.underlying 22 = some (Go.TypeDesc.func #[] #[4] false)) := And.intro tyS22 (And.intro tyA22 (And.intro zV22 (Tryd.underlying22)))
theorem tyS23 : tySize Tryd.prog 23 = some 1 := by kernel_rfl
theorem tyA23 : tyAgg Tryd.prog 23 = some false := by kernel_rfl
theorem zV23 : zerosV Tryd.prog 23 = some [.sl .nil []] := by kernel_rfl
theorem F23 : (tySize Tryd.prog 23 = some 1) ∧ (tyAgg Tryd.prog 23 = some false) ∧ (zerosV Tryd.prog 23 = some [.sl .nil []]) ∧ (Tryd.prog.underlying 23 = some (Go.TypeDesc.slice 9)) := And.intro tyS23 (And.intro tyA23 (And.intro zV23 (Tryd.underlying23)))
theorem tyS24 : tySize Tryd.prog 24 = some 4 := by kernel_rfl
theorem tyA24 : tyAgg Tryd.prog 24 = some true := by kernel_rfl
theorem zV24 : zerosV Tryd.prog 24 = some [.int .i64 0, .int .i64 0, .int .i64 0, .sl .nil []] := by kernel_rfl
theorem pl24 : places Tryd.prog 24 = some [(0, 1), (1, 1), (2, 1), (3, 1)] := by kernel_rfl
theorem fl24_0 : fld Tryd.prog 24 0 = some (0, 3) := by kernel_rfl
theorem fl24_1 : fld Tryd.prog 24 1 = some (1, 3) := by kernel_rfl
theorem fl24_2 : fld Tryd.prog 24 2 = some (2, 3) := by kernel_rfl
theorem fl24_3 : fld Tryd.prog 24 3 = some (3, 23) := by kernel_rfl
theorem F24 : (tySize Tryd.prog 24 = some 4) ∧ (tyAgg Tryd.prog 24 = some true) ∧ (zerosV Tryd.prog 24 = some [.int .i64 0, .int .i64 0, .int .i64 0, .sl .nil []]) ∧ (places Tryd.prog 24 = some [(0, 1), (1, 1), (2, 1), (3, 1)]) ∧ (fld Tryd.prog 24 0 = some (0, 3)) ∧ (fld Tryd.prog 24 1 = some (1, 3)) ∧ (fld Tryd.prog 24 2 = some (2, 3)) ∧ (fld Tryd.prog 24 3 = some (3, 23)) ∧ (Tryd.prog.underlying 24 = some (Go.TypeDesc.struct #[{ name := "Major", type := 3, offset := 0, embedded := false, tag := "", pkgPath := "", byteOffset := 0 }, { name := "Minor", type := 3, offset := 1, embedded := false, tag := "", pkgPath := "", byteOffset := 8 }, { name := "Patch", type := 3, offset := 2, embedded := false, tag := "", pkgPath := "", byteOffset := 16 }, { name := "Pre", type := 23, offset := 3, embedded := false, tag := "", pkgPath := "", byteOffset := 24 }])) := And.intro tyS24 (And.intro tyA24 (And.intro zV24 (And.intro pl24 (And.intro fl24_0 (And.intro fl24_1 (And.intro fl24_2 (And.intro fl24_3 (Tryd.underlying24))))))))
theorem tyS25 : tySize Tryd.prog 25 = some 4 := by kernel_rfl
theorem tyA25 : tyAgg Tryd.prog 25 = some true := by kernel_rfl
theorem zV25 : zerosV Tryd.prog 25 = some [.int .i64 0, .int .i64 0, .int .i64 0, .sl .nil []] := by kernel_rfl
theorem pl25 : places Tryd.prog 25 = some [(0, 1), (1, 1), (2, 1), (3, 1)] := by kernel_rfl
theorem fl25_0 : fld Tryd.prog 25 0 = some (0, 3) := by kernel_rfl
theorem fl25_1 : fld Tryd.prog 25 1 = some (1, 3) := by kernel_rfl
theorem fl25_2 : fld Tryd.prog 25 2 = some (2, 3) := by kernel_rfl
theorem fl25_3 : fld Tryd.prog 25 3 = some (3, 23) := by kernel_rfl
theorem F25 : (tySize Tryd.prog 25 = some 4) ∧ (tyAgg Tryd.prog 25 = some true) ∧ (zerosV Tryd.prog 25 = some [.int .i64 0, .int .i64 0, .int .i64 0, .sl .nil []]) ∧ (places Tryd.prog 25 = some [(0, 1), (1, 1), (2, 1), (3, 1)]) ∧ (fld Tryd.prog 25 0 = some (0, 3)) ∧ (fld Tryd.prog 25 1 = some (1, 3)) ∧ (fld Tryd.prog 25 2 = some (2, 3)) ∧ (fld Tryd.prog 25 3 = some (3, 23)) ∧ (Tryd.prog.underlying 25 = some (Go.TypeDesc.struct #[{ name := "Major", type := 3, offset := 0, embedded := false, tag := "", pkgPath := "", byteOffset := 0 }, { name := "Minor", type := 3, offset := 1, embedded := false, tag := "", pkgPath := "", byteOffset := 8 }, { name := "Patch", type := 3, offset := 2, embedded := false, tag := "", pkgPath := "", byteOffset := 16 }, { name := "Pre", type := 23, offset := 3, embedded := false, tag := "", pkgPath := "", byteOffset := 24 }])) := And.intro tyS25 (And.intro tyA25 (And.intro zV25 (And.intro pl25 (And.intro fl25_0 (And.intro fl25_1 (And.intro fl25_2 (And.intro fl25_3 (Tryd.underlying25))))))))
theorem tyS26 : tySize Tryd.prog 26 = some 1 := by kernel_rfl
theorem tyA26 : tyAgg Tryd.prog 26 = some false := by kernel_rfl
theorem zV26 : zerosV Tryd.prog 26 = some [.int .i64 0] := by kernel_rfl
theorem F26 : (tySize Tryd.prog 26 = some 1) ∧ (tyAgg Tryd.prog 26 = some false) ∧ (zerosV Tryd.prog 26 = some [.int .i64 0]) ∧ (Tryd.prog.underlying 26 = some (Go.TypeDesc.int Go.IntKind.i64)) := And.intro tyS26 (And.intro tyA26 (And.intro zV26 (Tryd.underlying26)))
theorem tyS27 : tySize Tryd.prog 27 = some 1 := by kernel_rfl
theorem tyA27 : tyAgg Tryd.prog 27 = some false := by kernel_rfl
theorem F27 : (tySize Tryd.prog 27 = some 1) ∧ (tyAgg Tryd.prog 27 = some false) ∧ (Tryd.prog.underlying 27 = some (Go.TypeDesc.tuple #[25, 26])) := And.intro tyS27 (And.intro tyA27 (Tryd.underlying27))
theorem tyS28 : tySize Tryd.prog 28 = some 1 := by kernel_rfl
theorem tyA28 : tyAgg Tryd.prog 28 = some false := by kernel_rfl
theorem zV28 : zerosV Tryd.prog 28 = some [.exact Go.Value.nilFunc] := by kernel_rfl
theorem F28 : (tySize Tryd.prog 28 = some 1) ∧ (tyAgg Tryd.prog 28 = some false) ∧ (zerosV Tryd.prog 28 = some [.exact Go.Value.nilFunc]) ∧ (Tryd.prog.underlying 28 = some (Go.TypeDesc.func #[9] #[25, 26] false)) := And.intro tyS28 (And.intro tyA28 (And.intro zV28 (Tryd.underlying28)))
theorem tyS29 : tySize Tryd.prog 29 = some 1 := by kernel_rfl
theorem tyA29 : tyAgg Tryd.prog 29 = some false := by kernel_rfl
theorem F29 : (tySize Tryd.prog 29 = some 1) ∧ (tyAgg Tryd.prog 29 = some false) ∧ (Tryd.prog.underlying 29 = some (Go.TypeDesc.tuple #[25, 3])) := And.intro tyS29 (And.intro tyA29 (Tryd.underlying29))
theorem tyS30 : tySize Tryd.prog 30 = some 1 := by kernel_rfl
theorem tyA30 : tyAgg Tryd.prog 30 = some false := by kernel_rfl
theorem zV30 : zerosV Tryd.prog 30 = some [.exact Go.Value.nilFunc] := by kernel_rfl
theorem F30 : (tySize Tryd.prog 30 = some 1) ∧ (tyAgg Tryd.prog 30 = some false) ∧ (zerosV Tryd.prog 30 = some [.exact Go.Value.nilFunc]) ∧ (Tryd.prog.underlying 30 = some (Go.TypeDesc.func #[9] #[25, 3] false)) := And.intro tyS30 (And.intro tyA30 (And.intro zV30 (Tryd.underlying30)))
theorem tyS31 : tySize Tryd.prog 31 = some 1 := by kernel_rfl
theorem tyA31 : tyAgg Tryd.prog 31 = some false := by kernel_rfl
theorem zV31 : zerosV Tryd.prog 31 = some [.exact Go.Value.nilFunc] := by kernel_rfl
theorem F31 : (tySize Tryd.prog 31 = some 1) ∧ (tyAgg Tryd.prog 31 = some false) ∧ (zerosV Tryd.prog 31 = some [.exact Go.Value.nilFunc]) ∧ (Tryd.prog.underlying 31 = some (Go.TypeDesc.func #[25, 25] #[4] false)) := And.intro tyS31 (And.intro tyA31 (And.intro zV31 (Tryd.underlying31)))
theorem tyS32 : tySize Tryd.prog 32 = some 1 := by kernel_rfl
theorem tyA32 : tyAgg Tryd.prog 32 = some false := by kernel_rfl
theorem zV32 : zerosV Tryd.prog 32 = some [.exact Go.Value.nilFunc] := by kernel_rfl
theorem F32 : (tySize Tryd.prog 32 = some 1) ∧ (tyAgg Tryd.prog 32 = some false) ∧ (zerosV Tryd.prog 32 = some [.exact Go.Value.nilFunc]) ∧ (Tryd.prog.underlying 32 = some (Go.TypeDesc.func #[25] #[9] false)) := And.intro tyS32 (And.intro tyA32 (And.intro zV32 (Tryd.underlying32)))
theorem tyS33 : tySize Tryd.prog 33 = some 1 := by kernel_rfl
theorem tyA33 : tyAgg Tryd.prog 33 = some false := by kernel_rfl
theorem zV33 : zerosV Tryd.prog 33 = some [.exact Go.Value.nilFunc] := by kernel_rfl
theorem F33 : (tySize Tryd.prog 33 = some 1) ∧ (tyAgg Tryd.prog 33 = some false) ∧ (zerosV Tryd.prog 33 = some [.exact Go.Value.nilFunc]) ∧ (Tryd.prog.underlying 33 = some (Go.TypeDesc.func #[9] #[4] false)) := And.intro tyS33 (And.intro tyA33 (And.intro zV33 (Tryd.underlying33)))
theorem tyS34 : tySize Tryd.prog 34 = some 1 := by kernel_rfl
theorem tyA34 : tyAgg Tryd.prog 34 = some false := by kernel_rfl
theorem zV34 : zerosV Tryd.prog 34 = some [.exact Go.Value.nilFunc] := by kernel_rfl
theorem F34 : (tySize Tryd.prog 34 = some 1) ∧ (tyAgg Tryd.prog 34 = some false) ∧ (zerosV Tryd.prog 34 = some [.exact Go.Value.nilFunc]) ∧ (Tryd.prog.underlying 34 = some (Go.TypeDesc.func #[25] #[4] false)) := And.intro tyS34 (And.intro tyA34 (And.intro zV34 (Tryd.underlying34)))
theorem tyS35 : tySize Tryd.prog 35 = some 1 := by kernel_rfl
theorem tyA35 : tyAgg Tryd.prog 35 = some false := by kernel_rfl
theorem zV35 : zerosV Tryd.prog 35 = some [.exact Go.Value.nilFunc] := by kernel_rfl
theorem F35 : (tySize Tryd.prog 35 = some 1) ∧ (tyAgg Tryd.prog 35 = some false) ∧ (zerosV Tryd.prog 35 = some [.exact Go.Value.nilFunc]) ∧ (Tryd.prog.underlying 35 = some (Go.TypeDesc.func #[25, 25] #[3] false)) := And.intro tyS35 (And.intro tyA35 (And.intro zV35 (Tryd.underlying35)))
theorem tyS36 : tySize Tryd.prog 36 = some 1 := by kernel_rfl
theorem tyA36 : tyAgg Tryd.prog 36 = some false := by kernel_rfl
theorem zV36 : zerosV Tryd.prog 36 = some [.exact Go.Value.nilFunc] := by kernel_rfl
theorem F36 : (tySize Tryd.prog 36 = some 1) ∧ (tyAgg Tryd.prog 36 = some false) ∧ (zerosV Tryd.prog 36 = some [.exact Go.Value.nilFunc]) ∧ (Tryd.prog.underlying 36 = some (Go.TypeDesc.func #[25, 3] #[25] false)) := And.intro tyS36 (And.intro tyA36 (And.intro zV36 (Tryd.underlying36)))
theorem tyS37 : tySize Tryd.prog 37 = some 1 := by kernel_rfl
theorem tyA37 : tyAgg Tryd.prog 37 = some false := by kernel_rfl
theorem zV37 : zerosV Tryd.prog 37 = some [.exact Go.Value.nilFunc] := by kernel_rfl
theorem F37 : (tySize Tryd.prog 37 = some 1) ∧ (tyAgg Tryd.prog 37 = some false) ∧ (zerosV Tryd.prog 37 = some [.exact Go.Value.nilFunc]) ∧ (Tryd.prog.underlying 37 = some (Go.TypeDesc.func #[25, 25, 3] #[4] false)) := And.intro tyS37 (And.intro tyA37 (And.intro zV37 (Tryd.underlying37)))
theorem tyS38 : tySize Tryd.prog 38 = some 1 := by kernel_rfl
theorem tyA38 : tyAgg Tryd.prog 38 = some false := by kernel_rfl
theorem zV38 : zerosV Tryd.prog 38 = some [.exact Go.Value.nilFunc] := by kernel_rfl
theorem F38 : (tySize Tryd.prog 38 = some 1) ∧ (tyAgg Tryd.prog 38 = some false) ∧ (zerosV Tryd.prog 38 = some [.exact Go.Value.nilFunc]) ∧ (Tryd.prog.underlying 38 = some (Go.TypeDesc.func #[9, 9, 9] #[4] false)) := And.intro tyS38 (And.intro tyA38 (And.intro zV38 (Tryd.underlying38)))
theorem tyS39 : tySize Tryd.prog 39 = some 1 := by kernel_rfl
theorem tyA39 : tyAgg Tryd.prog 39 = some false := by kernel_rfl
theorem zV39 : zerosV Tryd.prog 39 = some [.int .u32 0] := by kernel_rfl
theorem F39 : (tySize Tryd.prog 39 = some 1) ∧ (tyAgg Tryd.prog 39 = some false) ∧ (zerosV Tryd.prog 39 = some [.int .u32 0]) ∧ (Tryd.prog.underlying 39 = some (Go.TypeDesc.int Go.IntKind.u32)) := And.intro tyS39 (And.intro tyA39 (And.intro zV39 (Tryd.underlying39)))
theorem tyS40 : tySize Tryd.prog 40 = some 1 := by kernel_rfl
theorem tyA40 : tyAgg Tryd.prog 40 = some false := by kernel_rfl
theorem zV40 : zerosV Tryd.prog 40 = some [.sl .nil []] := by kernel_rfl
theorem F40 : (tySize Tryd.prog 40 = some 1) ∧ (tyAgg Tryd.prog 40 = some false) ∧ (zerosV Tryd.prog 40 = some [.sl .nil []]) ∧ (Tryd.prog.underlying 40 = some (Go.TypeDesc.slice 3)) := And.intro tyS40 (And.intro tyA40 (And.intro zV40 (Tryd.underlying40)))
theorem tyS41 : tySize Tryd.prog 41 = some 1 := by kernel_rfl
theorem tyA41 : tyAgg Tryd.prog 41 = some false := by kernel_rfl
theorem zV41 : zerosV Tryd.prog 41 = some [.exact Go.Value.nilFunc] := by kernel_rfl
theorem F41 : (tySize Tryd.prog 41 = some 1) ∧ (tyAgg Tryd.prog 41 = some false) ∧ (zerosV Tryd.prog 41 = some [.exact Go.Value.nilFunc]) ∧ (Tryd.prog.underlying 41 = some (Go.TypeDesc.func #[4] #[3] false)) := And.intro tyS41 (And.intro tyA41 (And.intro zV41 (Tryd.underlying41)))
theorem tyS42 : tySize Tryd.prog 42 = some 1 := by kernel_rfl
theorem tyA42 : tyAgg Tryd.prog 42 = some false := by kernel_rfl
theorem zV42 : zerosV Tryd.prog 42 = some [.exact Go.Value.nilFunc] := by kernel_rfl
theorem F42 : (tySize Tryd.prog 42 = some 1) ∧ (tyAgg Tryd.prog 42 = some false) ∧ (zerosV Tryd.prog 42 = some [.exact Go.Value.nilFunc]) ∧ (Tryd.prog.underlying 42 = some (Go.TypeDesc.func #[39, 39, 39, 3] #[4] false)) := And.intro tyS42 (And.intro tyA42 (And.intro zV42 (Tryd.underlying42)))
theorem tyS43 : tySize Tryd.prog 43 = some 1 := by kernel_rfl
theorem tyA43 : tyAgg Tryd.prog 43 = some false := by kernel_rfl
theorem zV43 : zerosV Tryd.prog 43 = some [.sl .nil []] := by kernel_rfl
theorem F43 : (tySize Tryd.prog 43 = some 1) ∧ (tyAgg Tryd.prog 43 = some false) ∧ (zerosV Tryd.prog 43 = some [.sl .nil []]) ∧ (Tryd.prog.underlying 43 = some (Go.TypeDesc.slice 5)) := And.intro tyS43 (And.intro tyA43 (And.intro zV43 (Tryd.underlying43)))
theorem tyS44 : tySize Tryd.prog 44 = some 1 := by kernel_rfl
theorem tyA44 : tyAgg Tryd.prog 44 = some false := by kernel_rfl
theorem zV44 : zerosV Tryd.prog 44 = some [.exact Go.Value.nilFunc] := by kernel_rfl
theorem F44 : (tySize Tryd.prog 44 = some 1) ∧ (tyAgg Tryd.prog 44 = some false) ∧ (zerosV Tryd.prog 44 = some [.exact Go.Value.nilFunc]) ∧ (Tryd.prog.underlying 44 = some (Go.TypeDesc.func #[43] #[9] false)) := And.intro tyS44 (And.intro tyA44 (And.intro zV44 (Tryd.underlying44)))
theorem tyS45 : tySize Tryd.prog 45 = some 1 := by kernel_rfl
theorem tyA45 : tyAgg Tryd.prog 45 = some false := by kernel_rfl
theorem zV45 : zerosV Tryd.prog 45 = some [.exact Go.Value.nilFunc] := by kernel_rfl
theorem F45 : (tySize Tryd.prog 45 = some 1) ∧ (tyAgg Tryd.prog 45 = some false) ∧ (zerosV Tryd.prog 45 = some [.exact Go.Value.nilFunc]) ∧ (Tryd.prog.underlying 45 = some (Go.TypeDesc.func #[3] #[3] false)) := And.intro tyS45 (And.intro tyA45 (And.intro zV45 (Tryd.underlying45)))
theorem tyS46 : tySize Tryd.prog 46 = some 1 := by kernel_rfl
theorem tyA46 : tyAgg Tryd.prog 46 = some false := by kernel_rfl
theorem zV46 : zerosV Tryd.prog 46 = some [.exact Go.Value.nilFunc] := by kernel_rfl
theorem F46 : (tySize Tryd.prog 46 = some 1) ∧ (tyAgg Tryd.prog 46 = some false) ∧ (zerosV Tryd.prog 46 = some [.exact Go.Value.nilFunc]) ∧ (Tryd.prog.underlying 46 = some (Go.TypeDesc.func #[43, 43] #[4] false)) := And.intro tyS46 (And.intro tyA46 (And.intro zV46 (Tryd.underlying46)))
theorem tyS47 : tySize Tryd.prog 47 = some 3 := by kernel_rfl
theorem tyA47 : tyAgg Tryd.prog 47 = some true := by kernel_rfl
theorem zV47 : zerosV Tryd.prog 47 = some [.int .u32 0, .int .u32 0, .int .u32 0] := by kernel_rfl
theorem F47 : (tySize Tryd.prog 47 = some 3) ∧ (tyAgg Tryd.prog 47 = some true) ∧ (zerosV Tryd.prog 47 = some [.int .u32 0, .int .u32 0, .int .u32 0]) ∧ (Tryd.prog.underlying 47 = some (Go.TypeDesc.array 3 39)) := And.intro tyS47 (And.intro tyA47 (And.intro zV47 (Tryd.underlying47)))
theorem tyS48 : tySize Tryd.prog 48 = some 1 := by kernel_rfl
theorem tyA48 : tyAgg Tryd.prog 48 = some false := by kernel_rfl
theorem zV48 : zerosV Tryd.prog 48 = some [.exact Go.Value.nilFunc] := by kernel_rfl
theorem F48 : (tySize Tryd.prog 48 = some 1) ∧ (tyAgg Tryd.prog 48 = some false) ∧ (zerosV Tryd.prog 48 = some [.exact Go.Value.nilFunc]) ∧ (Tryd.prog.underlying 48 = some (Go.TypeDesc.func #[3] #[9] false)) := And.intro tyS48 (And.intro tyA48 (And.intro zV48 (Tryd.underlying48)))
theorem tyS49 : tySize Tryd.prog 49 = some 1 := by kernel_rfl
theorem tyA49 : tyAgg Tryd.prog 49 = some false := by kernel_rfl
theorem zV49 : zerosV Tryd.prog 49 = some [.exact Go.Value.nilFunc] := by kernel_rfl
theorem F49 : (tySize Tryd.prog 49 = some 1) ∧ (tyAgg Tryd.prog 49 = some false) ∧ (zerosV Tryd.prog 49 = some [.exact Go.Value.nilFunc]) ∧ (Tryd.prog.underlying 49 = some (Go.TypeDesc.func #[47, 47] #[4] false)) := And.intro tyS49 (And.intro tyA49 (And.intro zV49 (Tryd.underlying49)))
theorem tyS50 : tySize Tryd.prog 50 = some 1 := by kernel_rfl
theorem tyA50 : tyAgg Tryd.prog 50 = some false := by kernel_rfl
theorem F50 : (tySize Tryd.prog 50 = some 1) ∧ (tyAgg Tryd.prog 50 = some false) ∧ (Tryd.prog.underlying 50 = some (Go.TypeDesc.tuple #[9, 9, 4])) := And.intro tyS50 (And.intro tyA50 (Tryd.underlying50))
theorem tyS51 : tySize Tryd.prog 51 = some 1 := by kernel_rfl
theorem tyA51 : tyAgg Tryd.prog 51 = some false := by kernel_rfl
theorem zV51 : zerosV Tryd.prog 51 = some [.exact Go.Value.nilFunc] := by kernel_rfl
theorem F51 : (tySize Tryd.prog 51 = some 1) ∧ (tyAgg Tryd.prog 51 = some false) ∧ (zerosV Tryd.prog 51 = some [.exact Go.Value.nilFunc]) ∧ (Tryd.prog.underlying 51 = some (Go.TypeDesc.func #[9, 9] #[9, 9, 4] false)) := And.intro tyS51 (And.intro tyA51 (And.intro zV51 (Tryd.underlying51)))
theorem tyS52 : tySize Tryd.prog 52 = some 1 := by kernel_rfl
theorem tyA52 : tyAgg Tryd.prog 52 = some false := by kernel_rfl
theorem zV52 : zerosV Tryd.prog 52 = some [.exact Go.Value.nilFunc] := by kernel_rfl
theorem F52 : (tySize Tryd.prog 52 = some 1) ∧ (tyAgg Tryd.prog 52 = some false) ∧ (zerosV Tryd.prog 52 = some [.exact Go.Value.nilFunc]) ∧ (Tryd.prog.underlying 52 = some (Go.TypeDesc.func #[9, 9] #[23] false)) := And.intro tyS52 (And.intro tyA52 (And.intro zV52 (Tryd.underlying52)))
theorem tyS53 : tySize Tryd.prog 53 = some 3 := by kernel_rfl
theorem tyA53 : tyAgg Tryd.prog 53 = some true := by kernel_rfl
theorem zV53 : zerosV Tryd.prog 53 = some [.int .i64 0, .int .i64 0, .int .i64 0] := by kernel_rfl
theorem F53 : (tySize Tryd.prog 53 = some 3) ∧ (tyAgg Tryd.prog 53 = some true) ∧ (zerosV Tryd.prog 53 = some [.int .i64 0, .int .i64 0, .int .i64 0]) ∧ (Tryd.prog.underlying 53 = some (Go.TypeDesc.array 3 3)) := And.intro tyS53 (And.intro tyA53 (And.intro zV53 (Tryd.underlying53)))
theorem tyS54 : tySize Tryd.prog 54 = some 1 := by kernel_rfl
theorem tyA54 : tyAgg Tryd.prog 54 = some false := by kernel_rfl
theorem F54 : (tySize Tryd.prog 54 = some 1) ∧ (tyAgg Tryd.prog 54 = some false) ∧ (Tryd.prog.underlying 54 = some (Go.TypeDesc.tuple #[3, 4])) := And.intro tyS54 (And.intro tyA54 (Tryd.underlying54))
theorem tyS55 : tySize Tryd.prog 55 = some 1 := by kernel_rfl
theorem tyA55 : tyAgg Tryd.prog 55 = some false := by kernel_rfl
theorem zV55 : zerosV Tryd.prog 55 = some [.exact Go.Value.nilFunc] := by kernel_rfl
theorem F55 : (tySize Tryd.prog 55 = some 1) ∧ (tyAgg Tryd.prog 55 = some false) ∧ (zerosV Tryd.prog 55 = some [.exact Go.Value.nilFunc]) ∧ (Tryd.prog.underlying 55 = some (Go.TypeDesc.func #[9] #[3, 4] false)) := And.intro tyS55 (And.intro tyA55 (And.intro zV55 (Tryd.underlying55)))
theorem tyS56 : tySize Tryd.prog 56 = some 1 := by kernel_rfl
theorem tyA56 : tyAgg Tryd.prog 56 = some false := by kernel_rfl
theorem zV56 : zerosV Tryd.prog 56 = some [.exact Go.Value.nilFunc] := by kernel_rfl
theorem F56 : (tySize Tryd.prog 56 = some 1) ∧ (tyAgg Tryd.prog 56 = some false) ∧ (zerosV Tryd.prog 56 = some [.exact Go.Value.nilFunc]) ∧ (Tryd.prog.underlying 56 = some (Go.TypeDesc.func #[23, 33] #[4] false)) := And.intro tyS56 (And.intro tyA56 (And.intro zV56 (Tryd.underlying56)))
theorem tyS57 : tySize Tryd.prog 57 = some 1 := by kernel_rfl
theorem tyA57 : tyAgg Tryd.prog 57 = some false := by kernel_rfl
theorem zV57 : zerosV Tryd.prog 57 = some [.exact Go.Value.nilFunc] := by kernel_rfl
theorem F57 : (tySize Tryd.prog 57 = some 1) ∧ (tyAgg Tryd.prog 57 = some false) ∧ (zerosV Tryd.prog 57 = some [.exact Go.Value.nilFunc]) ∧ (Tryd.prog.underlying 57 = some (Go.TypeDesc.func #[9, 5] #[23] false)) := And.intro tyS57 (And.intro tyA57 (And.intro zV57 (Tryd.underlying57)))
theorem tyS58 : tySize Tryd.prog 58 = some 1 := by kernel_rfl
theorem tyA58 : tyAgg Tryd.prog 58 = some false := by kernel_rfl
theorem zV58 : zerosV Tryd.prog 58 = some [.exact Go.Value.nilFunc] := by kernel_rfl
theorem F58 : (tySize Tryd.prog 58 = some 1) ∧ (tyAgg Tryd.prog 58 = some false) ∧ (zerosV Tryd.prog 58 = some [.exact Go.Value.nilFunc]) ∧ (Tryd.prog.underlying 58 = some (Go.TypeDesc.func #[9, 3] #[3, 4] false)) := And.intro tyS58 (And.intro tyA58 (And.intro zV58 (Tryd.underlying58)))
theorem tyS59 : tySize Tryd.prog 59 = some 1 := by kernel_rfl
theorem tyA59 : tyAgg Tryd.prog 59 = some false := by kernel_rfl
theorem zV59 : zerosV Tryd.prog 59 = some [.exact Go.Value.nilFunc] := by kernel_rfl
theorem F59 : (tySize Tryd.prog 59 = some 1) ∧ (tyAgg Tryd.prog 59 = some false) ∧ (zerosV Tryd.prog 59 = some [.exact Go.Value.nilFunc]) ∧ (Tryd.prog.underlying 59 = some (Go.TypeDesc.func #[23, 23] #[4] false)) := And.intro tyS59 (And.intro tyA59 (And.intro zV59 (Tryd.underlying59)))
theorem tyS60 : tySize Tryd.prog 60 = some 1 := by kernel_rfl
theorem tyA60 : tyAgg Tryd.prog 60 = some false := by kernel_rfl
theorem zV60 : zerosV Tryd.prog 60 = some [.exact Go.Value.nilFunc] := by kernel_rfl
theorem F60 : (tySize Tryd.prog 60 = some 1) ∧ (tyAgg Tryd.prog 60 = some false) ∧ (zerosV Tryd.prog 60 = some [.exact Go.Value.nilFunc]) ∧ (Tryd.prog.underlying 60 = some (Go.TypeDesc.func #[23, 9] #[9] false)) := And.intro tyS60 (And.intro tyA60 (And.intro zV60 (Tryd.underlying60)))
theorem tyS61 : tySize Tryd.prog 61 = some 1 := by kernel_rfl
theorem tyA61 : tyAgg Tryd.prog 61 = some false := by kernel_rfl
theorem zV61 : zerosV Tryd.prog 61 = some [.exact Go.Value.nilFunc] := by kernel_rfl
theorem F61 : (tySize Tryd.prog 61 = some 1) ∧ (tyAgg Tryd.prog 61 = some false) ∧ (zerosV Tryd.prog 61 = some [.exact Go.Value.nilFunc]) ∧ (Tryd.prog.underlying 61 = some (Go.TypeDesc.func #[40] #[3] true)) := And.intro tyS61 (And.intro tyA61 (And.intro zV61 (Tryd.underlying61)))
theorem tyS62 : tySize Tryd.prog 62 = some 1 := by kernel_rfl
theorem tyA62 : tyAgg Tryd.prog 62 = some false := by kernel_rfl
theorem zV62 : zerosV Tryd.prog 62 = some [.exact Go.Value.nilFunc] := by kernel_rfl
theorem F62 : (tySize Tryd.prog 62 = some 1) ∧ (tyAgg Tryd.prog 62 = some false) ∧ (zerosV Tryd.prog 62 = some [.exact Go.Value.nilFunc]) ∧ (Tryd.prog.underlying 62 = some (Go.TypeDesc.func #[3, 3] #[3] false)) := And.intro tyS62 (And.intro tyA62 (And.intro zV62 (Tryd.underlying62)))
theorem tyS63 : tySize Tryd.prog 63 = some 1 := by kernel_rfl
theorem tyA63 : tyAgg Tryd.prog 63 = some false := by kernel_rfl
theorem zV63 : zerosV Tryd.prog 63 = some [.exact Go.Value.nilFunc] := by kernel_rfl
theorem F63 : (tySize Tryd.prog 63 = some 1) ∧ (tyAgg Tryd.prog 63 = some false) ∧ (zerosV Tryd.prog 63 = some [.exact Go.Value.nilFunc]) ∧ (Tryd.prog.underlying 63 = some (Go.TypeDesc.func #[23, 23, 64] #[3] false)) := And.intro tyS63 (And.intro tyA63 (And.intro zV63 (Tryd.underlying63)))
theorem tyS64 : tySize Tryd.prog 64 = some 1 := by kernel_rfl
theorem tyA64 : tyAgg Tryd.prog 64 = some false := by kernel_rfl
theorem zV64 : zerosV Tryd.prog 64 = some [.exact Go.Value.nilFunc] := by kernel_rfl
theorem F64 : (tySize Tryd.prog 64 = some 1) ∧ (tyAgg Tryd.prog 64 = some false) ∧ (zerosV Tryd.prog 64 = some [.exact Go.Value.nilFunc]) ∧ (Tryd.prog.underlying 64 = some (Go.TypeDesc.func #[9, 9] #[3] false)) := And.intro tyS64 (And.intro tyA64 (And.intro zV64 (Tryd.underlying64)))
theorem tyS65 : tySize Tryd.prog 65 = some 1 := by kernel_rfl
theorem tyA65 : tyAgg Tryd.prog 65 = some false := by kernel_rfl
theorem zV65 : zerosV Tryd.prog 65 = some [.exact (Go.Value.pointer none)] := by kernel_rfl
theorem F65 : (tySize Tryd.prog 65 = some 1) ∧ (tyAgg Tryd.prog 65 = some false) ∧ (zerosV Tryd.prog 65 = some [.exact (Go.Value.pointer none)]) ∧ (Tryd.prog.underlying 65 = some (Go.TypeDesc.pointer 3)) := And.intro tyS65 (And.intro tyA65 (And.intro zV65 (Tryd.underlying65)))
theorem tyS66 : tySize Tryd.prog 66 = some 1 := by kernel_rfl
theorem tyA66 : tyAgg Tryd.prog 66 = some false := by kernel_rfl
theorem zV66 : zerosV Tryd.prog 66 = some [.sl .nil []] := by kernel_rfl
theorem F66 : (tySize Tryd.prog 66 = some 1) ∧ (tyAgg Tryd.prog 66 = some false) ∧ (zerosV Tryd.prog 66 = some [.sl .nil []]) ∧ (Tryd.prog.underlying 66 = some (Go.TypeDesc.slice 65)) := And.intro tyS66 (And.intro tyA66 (And.intro zV66 (Tryd.underlying66)))
theorem tyS67 : tySize Tryd.prog 67 = some 1 := by kernel_rfl
theorem tyA67 : tyAgg Tryd.prog 67 = some false := by kernel_rfl
theorem zV67 : zerosV Tryd.prog 67 = some [.exact Go.Value.nilFunc] := by kernel_rfl
theorem F67 : (tySize Tryd.prog 67 = some 1) ∧ (tyAgg Tryd.prog 67 = some false) ∧ (zerosV Tryd.prog 67 = some [.exact Go.Value.nilFunc]) ∧ (Tryd.prog.underlying 67 = some (Go.TypeDesc.func #[9, 9, 3, 3] #[23] false)) := And.intro tyS67 (And.intro tyA67 (And.intro zV67 (Tryd.underlying67)))
theorem tyS68 : tySize Tryd.prog 68 = some 1 := by kernel_rfl
theorem tyA68 : tyAgg Tryd.prog 68 = some false := by kernel_rfl
theorem zV68 : zerosV Tryd.prog 68 = some [.exact Go.Value.nilIface] := by kernel_rfl
theorem F68 : (tySize Tryd.prog 68 = some 1) ∧ (tyAgg Tryd.prog 68 = some false) ∧ (zerosV Tryd.prog 68 = some [.exact Go.Value.nilIface]) := And.intro tyS68 (And.intro tyA68 (zV68))
theorem tyS69 : tySize Tryd.prog 69 = some 1 := by kernel_rfl
theorem tyA69 : tyAgg Tryd.prog 69 = some false := by kernel_rfl
theorem zV69 : zerosV Tryd.prog 69 = some [.exact Go.Value.nilIface] := by kernel_rfl
theorem F69 : (tySize Tryd.prog 69 = some 1) ∧ (tyAgg Tryd.prog 69 = some false) ∧ (zerosV Tryd.prog 69 = some [.exact Go.Value.nilIface]) := And.intro tyS69 (And.intro tyA69 (zV69))
theorem tyS70 : tySize Tryd.prog 70 = some 1 := by kernel_rfl
theorem tyA70 : tyAgg Tryd.prog 70 = some false := by kernel_rfl
theorem F70 : (tySize Tryd.prog 70 = some 1) ∧ (tyAgg Tryd.prog 70 = some false) ∧ (Tryd.prog.underlying 70 = some (Go.TypeDesc.tuple #[3, 69])) := And.intro tyS70 (And.intro tyA70 (Tryd.underlying70))
theorem tyS71 : tySize Tryd.prog 71 = some 1 := by kernel_rfl
theorem tyA71 : tyAgg Tryd.prog 71 = some false := by kernel_rfl
theorem zV71 : zerosV Tryd.prog 71 = some [.exact Go.Value.nilFunc] := by kernel_rfl
theorem F71 : (tySize Tryd.prog 71 = some 1) ∧ (tyAgg Tryd.prog 71 = some false) ∧ (zerosV Tryd.prog 71 = some [.exact Go.Value.nilFunc]) ∧ (Tryd.prog.underlying 71 = some (Go.TypeDesc.func #[9] #[3, 69] false)) := And.intro tyS71 (And.intro tyA71 (And.intro zV71 (Tryd.underlying71)))
theorem tyS72 : tySize Tryd.prog 72 = some 1 := by kernel_rfl
theorem tyA72 : tyAgg Tryd.prog 72 = some false := by kernel_rfl
theorem zV72 : zerosV Tryd.prog 72 = some [.exact Go.Value.nilFunc] := by kernel_rfl
theorem F72 : (tySize Tryd.prog 72 = some 1) ∧ (tyAgg Tryd.prog 72 = some false) ∧ (zerosV Tryd.prog 72 = some [.exact Go.Value.nilFunc]) ∧ (Tryd.prog.underlying 72 = some (Go.TypeDesc.func #[23, 33] #[3] false)) := And.intro tyS72 (And.intro tyA72 (And.intro zV72 (Tryd.underlying72)))
theorem tyS73 : tySize Tryd.prog 73 = some 1 := by kernel_rfl
theorem tyA73 : tyAgg Tryd.prog 73 = some false := by kernel_rfl
theorem zV73 : zerosV Tryd.prog 73 = some [.exact Go.Value.nilFunc] := by kernel_rfl
theorem F73 : (tySize Tryd.prog 73 = some 1) ∧ (tyAgg Tryd.prog 73 = some false) ∧ (zerosV Tryd.prog 73 = some [.exact Go.Value.nilFunc]) ∧ (Tryd.prog.underlying 73 = some (Go.TypeDesc.func #[5] #[4] false)) := And.intro tyS73 (And.intro tyA73 (And.intro zV73 (Tryd.underlying73)))
theorem tyS74 : tySize Tryd.prog 74 = some 1 := by kernel_rfl
theorem tyA74 : tyAgg Tryd.prog 74 = some false := by kernel_rfl
theorem zV74 : zerosV Tryd.prog 74 = some [.exact (Go.Value.pointer none)] := by kernel_rfl
theorem F74 : (tySize Tryd.prog 74 = some 1) ∧ (tyAgg Tryd.prog 74 = some false) ∧ (zerosV Tryd.prog 74 = some [.exact (Go.Value.pointer none)]) ∧ (Tryd.prog.underlying 74 = some (Go.TypeDesc.pointer 76)) := And.intro tyS74 (And.intro tyA74 (And.intro zV74 (Tryd.underlying74)))
theorem tyS75 : tySize Tryd.prog 75 = some 2 := by kernel_rfl
theorem tyA75 : tyAgg Tryd.prog 75 = some true := by kernel_rfl
theorem zV75 : zerosV Tryd.prog 75 = some [.exact (Go.Value.pointer none), .sl .nil []] := by kernel_rfl
theorem pl75 : places Tryd.prog 75 = some [(0, 1), (1, 1)] := by kernel_rfl
theorem fl75_0 : fld Tryd.prog 75 0 = some (0, 74) := by kernel_rfl
theorem fl75_1 : fld Tryd.prog 75 1 = some (1, 43) := by kernel_rfl
theorem F75 : (tySize Tryd.prog 75 = some 2) ∧ (tyAgg Tryd.prog 75 = some true) ∧ (zerosV Tryd.prog 75 = some [.exact (Go.Value.pointer none), .sl .nil []]) ∧ (places Tryd.prog 75 = some [(0, 1), (1, 1)]) ∧ (fld Tryd.prog 75 0 = some (0, 74)) ∧ (fld Tryd.prog 75 1 = some (1, 43)) ∧ (Tryd.prog.underlying 75 = some (Go.TypeDesc.struct #[{ name := "addr", type := 74, offset := 0, embedded := false, tag := "", pkgPath := "strings", byteOffset := 0 }, { name := "buf", type := 43, offset := 1, embedded := false, tag := "", pkgPath := "strings", byteOffset := 8 }])) := And.intro tyS75 (And.intro tyA75 (And.intro zV75 (And.intro pl75 (And.intro fl75_0 (And.intro fl75_1 (Tryd.underlying75))))))
theorem tyS76 : tySize Tryd.prog 76 = some 2 := by kernel_rfl
theorem tyA76 : tyAgg Tryd.prog 76 = some true := by kernel_rfl
theorem zV76 : zerosV Tryd.prog 76 = some [.exact (Go.Value.pointer none), .sl .nil []] := by kernel_rfl
theorem pl76 : places Tryd.prog 76 = some [(0, 1), (1, 1)] := by kernel_rfl
theorem fl76_0 : fld Tryd.prog 76 0 = some (0, 74) := by kernel_rfl
theorem fl76_1 : fld Tryd.prog 76 1 = some (1, 43) := by kernel_rfl
theorem F76 : (tySize Tryd.prog 76 = some 2) ∧ (tyAgg Tryd.prog 76 = some true) ∧ (zerosV Tryd.prog 76 = some [.exact (Go.Value.pointer none), .sl .nil []]) ∧ (places Tryd.prog 76 = some [(0, 1), (1, 1)]) ∧ (fld Tryd.prog 76 0 = some (0, 74)) ∧ (fld Tryd.prog 76 1 = some (1, 43)) ∧ (Tryd.prog.underlying 76 = some (Go.TypeDesc.struct #[{ name := "addr", type := 74, offset := 0, embedded := false, tag := "", pkgPath := "strings", byteOffset := 0 }, { name := "buf", type := 43, offset := 1, embedded := false, tag := "", pkgPath := "strings", byteOffset := 8 }])) := And.intro tyS76 (And.intro tyA76 (And.intro zV76 (And.intro pl76 (And.intro fl76_0 (And.intro fl76_1 (Tryd.underlying76))))))
theorem tyS77 : tySize Tryd.prog 77 = some 1 := by kernel_rfl
theorem tyA77 : tyAgg Tryd.prog 77 = some false := by kernel_rfl
theorem zV77 : zerosV Tryd.prog 77 = some [.exact Go.Value.nilFunc] := by kernel_rfl
theorem F77 : (tySize Tryd.prog 77 = some 1) ∧ (tyAgg Tryd.prog 77 = some false) ∧ (zerosV Tryd.prog 77 = some [.exact Go.Value.nilFunc]) ∧ (Tryd.prog.underlying 77 = some (Go.TypeDesc.func #[3] #[] false)) := And.intro tyS77 (And.intro tyA77 (And.intro zV77 (Tryd.underlying77)))
theorem tyS78 : tySize Tryd.prog 78 = some 1 := by kernel_rfl
theorem tyA78 : tyAgg Tryd.prog 78 = some false := by kernel_rfl
theorem zV78 : zerosV Tryd.prog 78 = some [.exact Go.Value.nilFunc] := by kernel_rfl
theorem F78 : (tySize Tryd.prog 78 = some 1) ∧ (tyAgg Tryd.prog 78 = some false) ∧ (zerosV Tryd.prog 78 = some [.exact Go.Value.nilFunc]) ∧ (Tryd.prog.underlying 78 = some (Go.TypeDesc.func #[] #[9] false)) := And.intro tyS78 (And.intro tyA78 (And.intro zV78 (Tryd.underlying78)))
theorem tyS79 : tySize Tryd.prog 79 = some 1 := by kernel_rfl
theorem tyA79 : tyAgg Tryd.prog 79 = some false := by kernel_rfl
theorem zV79 : zerosV Tryd.prog 79 = some [.exact Go.Value.nilFunc] := by kernel_rfl
theorem F79 : (tySize Tryd.prog 79 = some 1) ∧ (tyAgg Tryd.prog 79 = some false) ∧ (zerosV Tryd.prog 79 = some [.exact Go.Value.nilFunc]) ∧ (Tryd.prog.underlying 79 = some (Go.TypeDesc.func #[3] #[4] false)) := And.intro tyS79 (And.intro tyA79 (And.intro zV79 (Tryd.underlying79)))
theorem tyS80 : tySize Tryd.prog 80 = some 1 := by kernel_rfl
theorem tyA80 : tyAgg Tryd.prog 80 = some false := by kernel_rfl
theorem zV80 : zerosV Tryd.prog 80 = some [.exact Go.Value.nilFunc] := by kernel_rfl
theorem F80 : (tySize Tryd.prog 80 = some 1) ∧ (tyAgg Tryd.prog 80 = some false) ∧ (zerosV Tryd.prog 80 = some [.exact Go.Value.nilFunc]) ∧ (Tryd.prog.underlying 80 = some (Go.TypeDesc.func #[9, 3] #[23] false)) := And.intro tyS80 (And.intro tyA80 (And.intro zV80 (Tryd.underlying80)))
theorem tyS81 : tySize Tryd.prog 81 = some 1 := by kernel_rfl
theorem tyA81 : tyAgg Tryd.prog 81 = some false := by kernel_rfl
theorem zV81 : zerosV Tryd.prog 81 = some [.exact Go.Value.nilFunc] := by kernel_rfl
theorem F81 : (tySize Tryd.prog 81 = some 1) ∧ (tyAgg Tryd.prog 81 = some false) ∧ (zerosV Tryd.prog 81 = some [.exact Go.Value.nilFunc]) ∧ (Tryd.prog.underlying 81 = some (Go.TypeDesc.func #[9, 9, 3, 3, 69] #[69] false)) := And.intro tyS81 (And.intro tyA81 (And.intro zV81 (Tryd.underlying81)))
theorem tyS82 : tySize Tryd.prog 82 = some 1 := by kernel_rfl
theorem tyA82 : tyAgg Tryd.prog 82 = some false := by kernel_rfl
theorem zV82 : zerosV Tryd.prog 82 = some [.exact Go.Value.nilFunc] := by kernel_rfl
theorem F82 : (tySize Tryd.prog 82 = some 1) ∧ (tyAgg Tryd.prog 82 = some false) ∧ (zerosV Tryd.prog 82 = some [.exact Go.Value.nilFunc]) ∧ (Tryd.prog.underlying 82 = some (Go.TypeDesc.func #[2, 3] #[9] false)) := And.intro tyS82 (And.intro tyA82 (And.intro zV82 (Tryd.underlying82)))
theorem tyS83 : tySize Tryd.prog 83 = some 1 := by kernel_rfl
theorem tyA83 : tyAgg Tryd.prog 83 = some false := by kernel_rfl
theorem zV83 : zerosV Tryd.prog 83 = some [.exact (Go.Value.pointer none)] := by kernel_rfl
theorem F83 : (tySize Tryd.prog 83 = some 1) ∧ (tyAgg Tryd.prog 83 = some false) ∧ (zerosV Tryd.prog 83 = some [.exact (Go.Value.pointer none)]) ∧ (Tryd.prog.underlying 83 = some (Go.TypeDesc.pointer 5)) := And.intro tyS83 (And.intro tyA83 (And.intro zV83 (Tryd.underlying83)))
theorem tyS84 : tySize Tryd.prog 84 = some 1 := by kernel_rfl
theorem tyA84 : tyAgg Tryd.prog 84 = some false := by kernel_rfl
theorem zV84 : zerosV Tryd.prog 84 = some [.exact Go.Value.nilFunc] := by kernel_rfl
theorem F84 : (tySize Tryd.prog 84 = some 1) ∧ (tyAgg Tryd.prog 84 = some false) ∧ (zerosV Tryd.prog 84 = some [.exact Go.Value.nilFunc]) ∧ (Tryd.prog.underlying 84 = some (Go.TypeDesc.func #[9, 5] #[3] false)) := And.intro tyS84 (And.intro tyA84 (And.intro zV84 (Tryd.underlying84)))
theorem tyS85 : tySize Tryd.prog 85 = some 1 := by kernel_rfl
theorem tyA85 : tyAgg Tryd.prog 85 = some false := by kernel_rfl
theorem zV85 : zerosV Tryd.prog 85 = some [.int .u64 0] := by kernel_rfl
theorem F85 : (tySize Tryd.prog 85 = some 1) ∧ (tyAgg Tryd.prog 85 = some false) ∧ (zerosV Tryd.prog 85 = some [.int .u64 0]) ∧ (Tryd.prog.underlying 85 = some (Go.TypeDesc.int Go.IntKind.u64)) := And.intro tyS85 (And.intro tyA85 (And.intro zV85 (Tryd.underlying85)))
theorem tyS86 : tySize Tryd.prog 86 = some 1 := by kernel_rfl
theorem tyA86 : tyAgg Tryd.prog 86 = some false := by kernel_rfl
theorem zV86 : zerosV Tryd.prog 86 = some [.exact Go.Value.nilFunc] := by kernel_rfl
theorem F86 : (tySize Tryd.prog 86 = some 1) ∧ (tyAgg Tryd.prog 86 = some false) ∧ (zerosV Tryd.prog 86 = some [.exact Go.Value.nilFunc]) ∧ (Tryd.prog.underlying 86 = some (Go.TypeDesc.func #[9] #[3] false)) := And.intro tyS86 (And.intro tyA86 (And.intro zV86 (Tryd.underlying86)))
theorem tyS87 : tySize Tryd.prog 87 = some 1 := by kernel_rfl
theorem tyA87 : tyAgg Tryd.prog 87 = some false := by kernel_rfl
theorem F87 : (tySize Tryd.prog 87 = some 1) ∧ (tyAgg Tryd.prog 87 = some false) ∧ (Tryd.prog.underlying 87 = some (Go.TypeDesc.tuple #[21, 3])) := And.intro tyS87 (And.intro tyA87 (Tryd.underlying87))
theorem tyS88 : tySize Tryd.prog 88 = some 1 := by kernel_rfl
theorem tyA88 : tyAgg Tryd.prog 88 = some false := by kernel_rfl
theorem zV88 : zerosV Tryd.prog 88 = some [.exact Go.Value.nilFunc] := by kernel_rfl
theorem F88 : (tySize Tryd.prog 88 = some 1) ∧ (tyAgg Tryd.prog 88 = some false) ∧ (zerosV Tryd.prog 88 = some [.exact Go.Value.nilFunc]) ∧ (Tryd.prog.underlying 88 = some (Go.TypeDesc.func #[9] #[21, 3] false)) := And.intro tyS88 (And.intro tyA88 (And.intro zV88 (Tryd.underlying88)))
theorem tyS89 : tySize Tryd.prog 89 = some 1 := by kernel_rfl
theorem tyA89 : tyAgg Tryd.prog 89 = some false := by kernel_rfl
theorem zV89 : zerosV Tryd.prog 89 = some [.int .i64 0] := by kernel_rfl
theorem F89 : (tySize Tryd.prog 89 = some 1) ∧ (tyAgg Tryd.prog 89 = some false) ∧ (zerosV Tryd.prog 89 = some [.int .i64 0]) ∧ (Tryd.prog.underlying 89 = some (Go.TypeDesc.int Go.IntKind.i64)) := And.intro tyS89 (And.intro tyA89 (And.intro zV89 (Tryd.underlying89)))
theorem tyS90 : tySize Tryd.prog 90 = some 1 := by kernel_rfl
theorem tyA90 : tyAgg Tryd.prog 90 = some false := by kernel_rfl
theorem F90 : (tySize Tryd.prog 90 = some 1) ∧ (tyAgg Tryd.prog 90 = some false) ∧ (Tryd.prog.underlying 90 = some (Go.TypeDesc.tuple #[2, 69])) := And.intro tyS90 (And.intro tyA90 (Tryd.underlying90))
theorem tyS91 : tySize Tryd.prog 91 = some 1 := by kernel_rfl
theorem tyA91 : tyAgg Tryd.prog 91 = some false := by kernel_rfl
theorem zV91 : zerosV Tryd.prog 91 = some [.exact Go.Value.nilFunc] := by kernel_rfl
theorem F91 : (tySize Tryd.prog 91 = some 1) ∧ (tyAgg Tryd.prog 91 = some false) ∧ (zerosV Tryd.prog 91 = some [.exact Go.Value.nilFunc]) ∧ (Tryd.prog.underlying 91 = some (Go.TypeDesc.func #[9, 3, 3] #[2, 69] false)) := And.intro tyS91 (And.intro tyA91 (And.intro zV91 (Tryd.underlying91)))
theorem tyS92 : tySize Tryd.prog 92 = some 1 := by kernel_rfl
theorem tyA92 : tyAgg Tryd.prog 92 = some false := by kernel_rfl
theorem zV92 : zerosV Tryd.prog 92 = some [.exact (Go.Value.pointer none)] := by kernel_rfl
theorem F92 : (tySize Tryd.prog 92 = some 1) ∧ (tyAgg Tryd.prog 92 = some false) ∧ (zerosV Tryd.prog 92 = some [.exact (Go.Value.pointer none)]) ∧ (Tryd.prog.underlying 92 = some (Go.TypeDesc.pointer 110)) := And.intro tyS92 (And.intro tyA92 (And.intro zV92 (Tryd.underlying92)))
theorem tyS93 : tySize Tryd.prog 93 = some 1 := by kernel_rfl
theorem tyA93 : tyAgg Tryd.prog 93 = some false := by kernel_rfl
theorem zV93 : zerosV Tryd.prog 93 = some [.exact Go.Value.nilFunc] := by kernel_rfl
theorem F93 : (tySize Tryd.prog 93 = some 1) ∧ (tyAgg Tryd.prog 93 = some false) ∧ (zerosV Tryd.prog 93 = some [.exact Go.Value.nilFunc]) ∧ (Tryd.prog.underlying 93 = some (Go.TypeDesc.func #[9, 9] #[92] false)) := And.intro tyS93 (And.intro tyA93 (And.intro zV93 (Tryd.underlying93)))
theorem tyS94 : tySize Tryd.prog 94 = some 1 := by kernel_rfl
theorem tyA94 : tyAgg Tryd.prog 94 = some false := by kernel_rfl
theorem zV94 : zerosV Tryd.prog 94 = some [.exact Go.Value.nilFunc] := by kernel_rfl
theorem F94 : (tySize Tryd.prog 94 = some 1) ∧ (tyAgg Tryd.prog 94 = some false) ∧ (zerosV Tryd.prog 94 = some [.exact Go.Value.nilFunc]) ∧ (Tryd.prog.underlying 94 = some (Go.TypeDesc.func #[9, 9, 3] #[92] false)) := And.intro tyS94 (And.intro tyA94 (And.intro zV94 (Tryd.underlying94)))
theorem tyS95 : tySize Tryd.prog 95 = some 24 := by kernel_rfl
theorem tyA95 : tyAgg Tryd.prog 95 = some true := by kernel_rfl
theorem zV95 : zerosV Tryd.prog 95 = some [.int .u8 0, .int .u8 0, .int .u8 0, .int .u8 0, .int .u8 0, .int .u8 0, .int .u8 0, .int .u8 0, .int .u8 0, .int .u8 0, .int .u8 0, .int .u8 0, .int .u8 0, .int .u8 0, .int .u8 0, .int .u8 0, .int .u8 0, .int .u8 0, .int .u8 0, .int .u8 0, .int .u8 0, .int .u8 0, .int .u8 0, .int .u8 0] := by kernel_rfl
theorem iK95 : isKey Tryd.prog 95 = some (24, 5) := by kernel_rfl
theorem F95 : (tySize Tryd.prog 95 = some 24) ∧ (tyAgg Tryd.prog 95 = some true) ∧ (zerosV Tryd.prog 95 = some [.int .u8 0, .int .u8 0, .int .u8 0, .int .u8 0, .int .u8 0, .int .u8 0, .int .u8 0, .int .u8 0, .int .u8 0, .int .u8 0, .int .u8 0, .int .u8 0, .int .u8 0, .int .u8 0, .int .u8 0, .int .u8 0, .int .u8 0, .int .u8 0, .int .u8 0, .int .u8 0, .int .u8 0, .int .u8 0, .int .u8 0, .int .u8 0]) ∧ (isKey Tryd.prog 95 = some (24, 5)) ∧ (Tryd.prog.underlying 95 = some (Go.TypeDesc.array 24 5)) := And.intro tyS95 (And.intro tyA95 (And.intro zV95 (And.intro iK95 (Tryd.underlying95))))
theorem tyS96 : tySize Tryd.prog 96 = some 1 := by kernel_rfl
theorem tyA96 : tyAgg Tryd.prog 96 = some false := by kernel_rfl
theorem zV96 : zerosV Tryd.prog 96 = some [.int .u64 0] := by kernel_rfl
theorem F96 : (tySize Tryd.prog 96 = some 1) ∧ (tyAgg Tryd.prog 96 = some false) ∧ (zerosV Tryd.prog 96 = some [.int .u64 0]) ∧ (Tryd.prog.underlying 96 = some (Go.TypeDesc.int Go.IntKind.u64)) := And.intro tyS96 (And.intro tyA96 (And.intro zV96 (Tryd.underlying96)))
theorem tyS97 : tySize Tryd.prog 97 = some 1 := by kernel_rfl
theorem tyA97 : tyAgg Tryd.prog 97 = some false := by kernel_rfl
theorem zV97 : zerosV Tryd.prog 97 = some [.exact Go.Value.nilFunc] := by kernel_rfl
theorem F97 : (tySize Tryd.prog 97 = some 1) ∧ (tyAgg Tryd.prog 97 = some false) ∧ (zerosV Tryd.prog 97 = some [.exact Go.Value.nilFunc]) ∧ (Tryd.prog.underlying 97 = some (Go.TypeDesc.func #[96] #[3] false)) := And.intro tyS97 (And.intro tyA97 (And.intro zV97 (Tryd.underlying97)))
theorem tyS98 : tySize Tryd.prog 98 = some 1 := by kernel_rfl
theorem tyA98 : tyAgg Tryd.prog 98 = some false := by kernel_rfl
theorem zV98 : zerosV Tryd.prog 98 = some [.exact Go.Value.nilFunc] := by kernel_rfl
theorem F98 : (tySize Tryd.prog 98 = some 1) ∧ (tyAgg Tryd.prog 98 = some false) ∧ (zerosV Tryd.prog 98 = some [.exact Go.Value.nilFunc]) ∧ (Tryd.prog.underlying 98 = some (Go.TypeDesc.func #[43, 96] #[] false)) := And.intro tyS98 (And.intro tyA98 (And.intro zV98 (Tryd.underlying98)))
theorem tyS99 : tySize Tryd.prog 99 = some 1 := by kernel_rfl
theorem tyA99 : tyAgg Tryd.prog 99 = some false := by kernel_rfl
theorem F99 : (tySize Tryd.prog 99 = some 1) ∧ (tyAgg Tryd.prog 99 = some false) ∧ (Tryd.prog.underlying 99 = some (Go.TypeDesc.tuple #[43, 9])) := And.intro tyS99 (And.intro tyA99 (Tryd.underlying99))
theorem tyS100 : tySize Tryd.prog 100 = some 1 := by kernel_rfl
theorem tyA100 : tyAgg Tryd.prog 100 = some false := by kernel_rfl
theorem zV100 : zerosV Tryd.prog 100 = some [.exact Go.Value.nilFunc] := by kernel_rfl
theorem F100 : (tySize Tryd.prog 100 = some 1) ∧ (tyAgg Tryd.prog 100 = some false) ∧ (zerosV Tryd.prog 100 = some [.exact Go.Value.nilFunc]) ∧ (Tryd.prog.underlying 100 = some (Go.TypeDesc.func #[43, 96, 3, 4, 4] #[43, 9] false)) := And.intro tyS100 (And.intro tyA100 (And.intro zV100 (Tryd.underlying100)))
theorem tyS101 : tySize Tryd.prog 101 = some 1 := by kernel_rfl
theorem tyA101 : tyAgg Tryd.prog 101 = some false := by kernel_rfl
theorem zV101 : zerosV Tryd.prog 101 = some [.exact (Go.Value.pointer none)] := by kernel_rfl
theorem F101 : (tySize Tryd.prog 101 = some 1) ∧ (tyAgg Tryd.prog 101 = some false) ∧ (zerosV Tryd.prog 101 = some [.exact (Go.Value.pointer none)]) ∧ (Tryd.prog.underlying 101 = some Go.TypeDesc.unsafePointer) := And.intro tyS101 (And.intro tyA101 (And.intro zV101 (Tryd.underlying101)))
theorem tyS102 : tySize Tryd.prog 102 = some 1 := by kernel_rfl
theorem tyA102 : tyAgg Tryd.prog 102 = some false := by kernel_rfl
theorem zV102 : zerosV Tryd.prog 102 = some [.exact Go.Value.nilFunc] := by kernel_rfl
theorem F102 : (tySize Tryd.prog 102 = some 1) ∧ (tyAgg Tryd.prog 102 = some false) ∧ (zerosV Tryd.prog 102 = some [.exact Go.Value.nilFunc]) ∧ (Tryd.prog.underlying 102 = some (Go.TypeDesc.func #[101] #[101] false)) := And.intro tyS102 (And.intro tyA102 (And.intro zV102 (Tryd.underlying102)))
theorem tyS103 : tySize Tryd.prog 103 = some 1 := by kernel_rfl
theorem tyA103 : tyAgg Tryd.prog 103 = some false := by kernel_rfl
theorem zV103 : zerosV Tryd.prog 103 = some [.exact Go.Value.nilFunc] := by kernel_rfl
theorem F103 : (tySize Tryd.prog 103 = some 1) ∧ (tyAgg Tryd.prog 103 = some false) ∧ (zerosV Tryd.prog 103 = some [.exact Go.Value.nilFunc]) ∧ (Tryd.prog.underlying 103 = some (Go.TypeDesc.func #[3] #[43] false)) := And.intro tyS103 (And.intro tyA103 (And.intro zV103 (Tryd.underlying103)))
theorem tyS104 : tySize Tryd.prog 104 = some 1 := by kernel_rfl
theorem tyA104 : tyAgg Tryd.prog 104 = some false := by kernel_rfl
theorem F104 : (tySize Tryd.prog 104 = some 1) ∧ (tyAgg Tryd.prog 104 = some false) ∧ (Tryd.prog.underlying 104 = some (Go.TypeDesc.tuple #[39, 39])) := And.intro tyS104 (And.intro tyA104 (Tryd.underlying104))
theorem tyS105 : tySize Tryd.prog 105 = some 1 := by kernel_rfl
theorem tyA105 : tyAgg Tryd.prog 105 = some false := by kernel_rfl
theorem zV105 : zerosV Tryd.prog 105 = some [.exact Go.Value.nilFunc] := by kernel_rfl
theorem F105 : (tySize Tryd.prog 105 = some 1) ∧ (tyAgg Tryd.prog 105 = some false) ∧ (zerosV Tryd.prog 105 = some [.exact Go.Value.nilFunc]) ∧ (Tryd.prog.underlying 105 = some (Go.TypeDesc.func #[9] #[39, 39] false)) := And.intro tyS105 (And.intro tyA105 (And.intro zV105 (Tryd.underlying105)))
theorem tyS106 : tySize Tryd.prog 106 = some 1 := by kernel_rfl
theorem tyA106 : tyAgg Tryd.prog 106 = some false := by kernel_rfl
theorem F106 : (tySize Tryd.prog 106 = some 1) ∧ (tyAgg Tryd.prog 106 = some false) ∧ (Tryd.prog.underlying 106 = some (Go.TypeDesc.tuple #[96, 69])) := And.intro tyS106 (And.intro tyA106 (Tryd.underlying106))
theorem tyS107 : tySize Tryd.prog 107 = some 1 := by kernel_rfl
theorem tyA107 : tyAgg Tryd.prog 107 = some false := by kernel_rfl
theorem zV107 : zerosV Tryd.prog 107 = some [.exact Go.Value.nilFunc] := by kernel_rfl
theorem F107 : (tySize Tryd.prog 107 = some 1) ∧ (tyAgg Tryd.prog 107 = some false) ∧ (zerosV Tryd.prog 107 = some [.exact Go.Value.nilFunc]) ∧ (Tryd.prog.underlying 107 = some (Go.TypeDesc.func #[9, 3, 3] #[96, 69] false)) := And.intro tyS107 (And.intro tyA107 (And.intro zV107 (Tryd.underlying107)))
theorem tyS108 : tySize Tryd.prog 108 = some 1 := by kernel_rfl
theorem tyA108 : tyAgg Tryd.prog 108 = some false := by kernel_rfl
theorem zV108 : zerosV Tryd.prog 108 = some [.exact Go.Value.nilFunc] := by kernel_rfl
theorem F108 : (tySize Tryd.prog 108 = some 1) ∧ (tyAgg Tryd.prog 108 = some false) ∧ (zerosV Tryd.prog 108 = some [.exact Go.Value.nilFunc]) ∧ (Tryd.prog.underlying 108 = some (Go.TypeDesc.func #[9] #[9] false)) := And.intro tyS108 (And.intro tyA108 (And.intro zV108 (Tryd.underlying108)))
theorem tyS109 : tySize Tryd.prog 109 = some 3 := by kernel_rfl
theorem tyA109 : tyAgg Tryd.prog 109 = some true := by kernel_rfl
theorem zV109 : zerosV Tryd.prog 109 = some [.str [], .str [], .exact Go.Value.nilIface] := by kernel_rfl
theorem pl109 : places Tryd.prog 109 = some [(0, 1), (1, 1), (2, 1)] := by kernel_rfl
theorem fl109_0 : fld Tryd.prog 109 0 = some (0, 9) := by kernel_rfl
theorem fl109_1 : fld Tryd.prog 109 1 = some (1, 9) := by kernel_rfl
theorem fl109_2 : fld Tryd.prog 109 2 = some (2, 69) := by kernel_rfl
theorem F109 : (tySize Tryd.prog 109 = some 3) ∧ (tyAgg Tryd.prog 109 = some true) ∧ (zerosV Tryd.prog 109 = some [.str [], .str [], .exact Go.Value.nilIface]) ∧ (places Tryd.prog 109 = some [(0, 1), (1, 1), (2, 1)]) ∧ (fld Tryd.prog 109 0 = some (0, 9)) ∧ (fld Tryd.prog 109 1 = some (1, 9)) ∧ (fld Tryd.prog 109 2 = some (2, 69)) ∧ (Tryd.prog.underlying 109 = some (Go.TypeDesc.struct #[{ name := "Func", type := 9, offset := 0, embedded := false, tag := "", pkgPath := "", byteOffset := 0 }, { name := "Num", type := 9, offset := 1, embedded := false, tag := "", pkgPath := "", byteOffset := 16 }, { name := "Err", type := 69, offset := 2, embedded := false, tag := "", pkgPath := "", byteOffset := 32 }])) := And.intro tyS109 (And.intro tyA109 (And.intro zV109 (And.intro pl109 (And.intro fl109_0 (And.intro fl109_1 (And.intro fl109_2 (Tryd.underlying109)))))))
theorem tyS110 : tySize Tryd.prog 110 = some 3 := by kernel_rfl
theorem tyA110 : tyAgg Tryd.prog 110 = some true := by kernel_rfl
theorem zV110 : zerosV Tryd.prog 110 = some [.str [], .str [], .exact Go.Value.nilIface] := by kernel_rfl
theorem pl110 : places Tryd.prog 110 = some [(0, 1), (1, 1), (2, 1)] := by kernel_rfl
theorem fl110_0 : fld Tryd.prog 110 0 = some (0, 9) := by kernel_rfl
theorem fl110_1 : fld Tryd.prog 110 1 = some (1, 9) := by kernel_rfl
theorem fl110_2 : fld Tryd.prog 110 2 = some (2, 69) := by kernel_rfl
theorem F110 : (tySize Tryd.prog 110 = some 3) ∧ (tyAgg Tryd.prog 110 = some true) ∧ (zerosV Tryd.prog 110 = some [.str [], .str [], .exact Go.Value.nilIface]) ∧ (places Tryd.prog 110 = some [(0, 1), (1, 1), (2, 1)]) ∧ (fld Tryd.prog 110 0 = some (0, 9)) ∧ (fld Tryd.prog 110 1 = some (1, 9)) ∧ (fld Tryd.prog 110 2 = some (2, 69)) ∧ (Tryd.prog.underlying 110 = some (Go.TypeDesc.struct #[{ name := "Func", type := 9, offset := 0, embedded := false, tag := "", pkgPath := "", byteOffset := 0 }, { name := "Num", type := 9, offset := 1, embedded := false, tag := "", pkgPath := "", byteOffset := 16 }, { name := "Err", type := 69, offset := 2, embedded := false, tag := "", pkgPath := "", byteOffset := 32 }])) := And.intro tyS110 (And.intro tyA110 (And.intro zV110 (And.intro pl110 (And.intro fl110_0 (And.intro fl110_1 (And.intro fl110_2 (Tryd.underlying110)))))))
theorem tyS111 : tySize Tryd.prog 111 = some 1 := by kernel_rfl
theorem tyA111 : tyAgg Tryd.prog 111 = some false := by kernel_rfl
theorem zV111 : zerosV Tryd.prog 111 = some [.exact Go.Value.nilFunc] := by kernel_rfl
theorem F111 : (tySize Tryd.prog 111 = some 1) ∧ (tyAgg Tryd.prog 111 = some false) ∧ (zerosV Tryd.prog 111 = some [.exact Go.Value.nilFunc]) ∧ (Tryd.prog.underlying 111 = some (Go.TypeDesc.func #[9] #[69] false)) := And.intro tyS111 (And.intro tyA111 (And.intro zV111 (Tryd.underlying111)))
theorem tyS112 : tySize Tryd.prog 112 = some 20 := by kernel_rfl
theorem tyA112 : tyAgg Tryd.prog 112 = some true := by kernel_rfl
theorem zV112 : zerosV Tryd.prog 112 = some [.int .u64 0, .int .u64 0, .int .u64 0, .int .u64 0, .int .u64 0, .int .u64 0, .int .u64 0, .int .u64 0, .int .u64 0, .int .u64 0, .int .u64 0, .int .u64 0, .int .u64 0, .int .u64 0, .int .u64 0, .int .u64 0, .int .u64 0, .int .u64 0, .int .u64 0, .int .u64 0] := by kernel_rfl
theorem F112 : (tySize Tryd.prog 112 = some 20) ∧ (tyAgg Tryd.prog 112 = some true) ∧ (zerosV Tryd.prog 112 = some [.int .u64 0, .int .u64 0, .int .u64 0, .int .u64 0, .int .u64 0, .int .u64 0, .int .u64 0, .int .u64 0, .int .u64 0, .int .u64 0, .int .u64 0, .int .u64 0, .int .u64 0, .int .u64 0, .int .u64 0, .int .u64 0, .int .u64 0, .int .u64 0, .int .u64 0, .int .u64 0]) ∧ (Tryd.prog.underlying 112 = some (Go.TypeDesc.array 20 96)) := And.intro tyS112 (And.intro tyA112 (And.intro zV112 (Tryd.underlying112)))
theorem tyS113 : tySize Tryd.prog 113 = some 65 := by kernel_rfl
theorem tyA113 : tyAgg Tryd.prog 113 = some true := by kernel_rfl
theorem iK113 : isKey Tryd.prog 113 = some (65, 5) := by kernel_rfl
theorem F113 : (tySize Tryd.prog 113 = some 65) ∧ (tyAgg Tryd.prog 113 = some true) ∧ (isKey Tryd.prog 113 = some (65, 5)) ∧ (Tryd.prog.underlying 113 = some (Go.TypeDesc.array 65 5)) := And.intro tyS113 (And.intro tyA113 (And.intro iK113 (Tryd.underlying113)))
theorem tyS114 : tySize Tryd.prog 114 = some 1 := by kernel_rfl
theorem tyA114 : tyAgg Tryd.prog 114 = some false := by kernel_rfl
theorem zV114 : zerosV Tryd.prog 114 = some [.exact Go.Value.nilFunc] := by kernel_rfl
theorem F114 : (tySize Tryd.prog 114 = some 1) ∧ (tyAgg Tryd.prog 114 = some false) ∧ (zerosV Tryd.prog 114 = some [.exact Go.Value.nilFunc]) ∧ (Tryd.prog.underlying 114 = some (Go.TypeDesc.func #[85] #[3] false)) := And.intro tyS114 (And.intro tyA114 (And.intro zV114 (Tryd.underlying114)))
theorem tyS115 : tySize Tryd.prog 115 = some 256 := by kernel_rfl
theorem tyA115 : tyAgg Tryd.prog 115 = some true := by kernel_rfl
theorem iK115 : isKey Tryd.prog 115 = some (256, 5) := by kernel_rfl
theorem F115 : (tySize Tryd.prog 115 = some 256) ∧ (tyAgg Tryd.prog 115 = some true) ∧ (isKey Tryd.prog 115 = some (256, 5)) ∧ (Tryd.prog.underlying 115 = some (Go.TypeDesc.array 256 5)) := And.intro tyS115 (And.intro tyA115 (And.intro iK115 (Tryd.underlying115)))
theorem tyS116 : tySize Tryd.prog 116 = some 2 := by kernel_rfl
theorem tyA116 : tyAgg Tryd.prog 116 = some true := by kernel_rfl
theorem zV116 : zerosV Tryd.prog 116 = some [.int .u8 0, .int .u8 0] := by kernel_rfl
theorem pl116 : places Tryd.prog 116 = some [(0, 1), (1, 1)] := by kernel_rfl
theorem fl116_0 : fld Tryd.prog 116 0 = some (0, 5) := by kernel_rfl
theorem fl116_1 : fld Tryd.prog 116 1 = some (1, 5) := by kernel_rfl
theorem F116 : (tySize Tryd.prog 116 = some 2) ∧ (tyAgg Tryd.prog 116 = some true) ∧ (zerosV Tryd.prog 116 = some [.int .u8 0, .int .u8 0]) ∧ (places Tryd.prog 116 = some [(0, 1), (1, 1)]) ∧ (fld Tryd.prog 116 0 = some (0, 5)) ∧ (fld Tryd.prog 116 1 = some (1, 5)) ∧ (Tryd.prog.underlying 116 = some (Go.TypeDesc.struct #[{ name := "lo", type := 5, offset := 0, embedded := false, tag := "", pkgPath := "unicode/utf8", byteOffset := 0 }, { name := "hi", type := 5, offset := 1, embedded := false, tag := "", pkgPath := "unicode/utf8", byteOffset := 1 }])) := And.intro tyS116 (And.intro tyA116 (And.intro zV116 (And.intro pl116 (And.intro fl116_0 (And.intro fl116_1 (Tryd.underlying116))))))
theorem tyS117 : tySize Tryd.prog 117 = some 2 := by kernel_rfl
theorem tyA117 : tyAgg Tryd.prog 117 = some true := by kernel_rfl
theorem zV117 : zerosV Tryd.prog 117 = some [.int .u8 0, .int .u8 0] := by kernel_rfl
theorem pl117 : places Tryd.prog 117 = some [(0, 1), (1, 1)] := by kernel_rfl
theorem fl117_0 : fld Tryd.prog 117 0 = some (0, 5) := by kernel_rfl
theorem fl117_1 : fld Tryd.prog 117 1 = some (1, 5) := by kernel_rfl
theorem F117 : (tySize Tryd.prog 117 = some 2) ∧ (tyAgg Tryd.prog 117 = some true) ∧ (zerosV Tryd.prog 117 = some [.int .u8 0, .int .u8 0]) ∧ (places Tryd.prog 117 = some [(0, 1), (1, 1)]) ∧ (fld Tryd.prog 117 0 = some (0, 5)) ∧ (fld Tryd.prog 117 1 = some (1, 5)) ∧ (Tryd.prog.underlying 117 = some (Go.TypeDesc.struct #[{ name := "lo", type := 5, offset := 0, embedded := false, tag := "", pkgPath := "unicode/utf8", byteOffset := 0 }, { name := "hi", type := 5, offset := 1, embedded := false, tag := "", pkgPath := "unicode/utf8", byteOffset := 1 }])) := And.intro tyS117 (And.intro tyA117 (And.intro zV117 (And.intro pl117 (And.intro fl117_0 (And.intro fl117_1 (Tryd.underlying117))))))
theorem tyS118 : tySize Tryd.prog 118 = some 32 := by kernel_rfl
theorem tyA118 : tyAgg Tryd.prog 118 = some true := by kernel_rfl
theorem zV118 : zerosV Tryd.prog 118 = some [.int .u8 0, .int .u8 0, .int .u8 0, .int .u8 0, .int .u8 0, .int .u8 0, .int .u8 0, .int .u8 0, .int .u8 0, .int .u8 0, .int .u8 0, .int .u8 0, .int .u8 0, .int .u8 0, .int .u8 0, .int .u8 0, .int .u8 0, .int .u8 0, .int .u8 0, .int .u8 0, .int .u8 0, .int .u8 0, .int .u8 0, .int .u8 0, .int .u8 0, .int .u8 0, .int .u8 0, .int .u8 0, .int .u8 0, .int .u8 0, .int .u8 0, .int .u8 0] := by kernel_rfl
theorem F118 : (tySize Tryd.prog 118 = some 32) ∧ (tyAgg Tryd.prog 118 = some true) ∧ (zerosV Tryd.prog 118 = some [.int .u8 0, .int .u8 0, .int .u8 0, .int .u8 0, .int .u8 0, .int .u8 0, .int .u8 0, .int .u8 0, .int .u8 0, .int .u8 0, .int .u8 0, .int .u8 0, .int .u8 0, .int .u8 0, .int .u8 0, .int .u8 0, .int .u8 0, .int .u8 0, .int .u8 0, .int .u8 0, .int .u8 0, .int .u8 0, .int .u8 0, .int .u8 0, .int .u8 0, .int .u8 0, .int .u8 0, .int .u8 0, .int .u8 0, .int .u8 0, .int .u8 0, .int .u8 0]) ∧ (Tryd.prog.underlying 118 = some (Go.TypeDesc.array 16 117)) := And.intro tyS118 (And.intro tyA118 (And.intro zV118 (Tryd.underlying118)))
theorem tyS119 : tySize Tryd.prog 119 = some 1 := by kernel_rfl
theorem tyA119 : tyAgg Tryd.prog 119 = some false := by kernel_rfl
theorem zV119 : zerosV Tryd.prog 119 = some [.exact Go.Value.nilFunc] := by kernel_rfl
theorem F119 : (tySize Tryd.prog 119 = some 1) ∧ (tyAgg Tryd.prog 119 = some false) ∧ (zerosV Tryd.prog 119 = some [.exact Go.Value.nilFunc]) ∧ (Tryd.prog.underlying 119 = some (Go.TypeDesc.func #[5] #[5] false)) := And.intro tyS119 (And.intro tyA119 (And.intro zV119 (Tryd.underlying119)))
theorem tyS120 : tySize Tryd.prog 120 = some 1 := by kernel_rfl
theorem tyA120 : tyAgg Tryd.prog 120 = some false := by kernel_rfl
theorem zV120 : zerosV Tryd.prog 120 = some [.exact (Go.Value.pointer none)] := by kernel_rfl
theorem F120 : (tySize Tryd.prog 120 = some 1) ∧ (tyAgg Tryd.prog 120 = some false) ∧ (zerosV Tryd.prog 120 = some [.exact (Go.Value.pointer none)]) ∧ (Tryd.prog.underlying 120 = some (Go.TypeDesc.pointer 122)) := And.intro tyS120 (And.intro tyA120 (And.intro zV120 (Tryd.underlying120)))
theorem tyS121 : tySize Tryd.prog 121 = some 1 := by kernel_rfl
theorem tyA121 : tyAgg Tryd.prog 121 = some true := by kernel_rfl
theorem zV121 : zerosV Tryd.prog 121 = some [.str []] := by kernel_rfl
theorem pl121 : places Tryd.prog 121 = some [(0, 1)] := by kernel_rfl
theorem fl121_0 : fld Tryd.prog 121 0 = some (0, 9) := by kernel_rfl
theorem F121 : (tySize Tryd.prog 121 = some 1) ∧ (tyAgg Tryd.prog 121 = some true) ∧ (zerosV Tryd.prog 121 = some [.str []]) ∧ (places Tryd.prog 121 = some [(0, 1)]) ∧ (fld Tryd.prog 121 0 = some (0, 9)) ∧ (Tryd.prog.underlying 121 = some (Go.TypeDesc.struct #[{ name := "s", type := 9, offset := 0, embedded := false, tag := "", pkgPath := "errors", byteOffset := 0 }])) := And.intro tyS121 (And.intro tyA121 (And.intro zV121 (And.intro pl121 (And.intro fl121_0 (Tryd.underlying121)))))
theorem tyS122 : tySize Tryd.prog 122 = some 1 := by kernel_rfl
theorem tyA122 : tyAgg Tryd.prog 122 = some true := by kernel_rfl
theorem zV122 : zerosV Tryd.prog 122 = some [.str []] := by kernel_rfl
theorem pl122 : places Tryd.prog 122 = some [(0, 1)] := by kernel_rfl
theorem fl122_0 : fld Tryd.prog 122 0 = some (0, 9) := by kernel_rfl
theorem F122 : (tySize Tryd.prog 122 = some 1) ∧ (tyAgg Tryd.prog 122 = some true) ∧ (zerosV Tryd.prog 122 = some [.str []]) ∧ (places Tryd.prog 122 = some [(0, 1)]) ∧ (fld Tryd.prog 122 0 = some (0, 9)) ∧ (Tryd.prog.underlying 122 = some (Go.TypeDesc.struct #[{ name := "s", type := 9, offset := 0, embedded := false, tag := "", pkgPath := "errors", byteOffset := 0 }])) := And.intro tyS122 (And.intro tyA122 (And.intro zV122 (And.intro pl122 (And.intro fl122_0 (Tryd.underlying122)))))
theorem tyS123 : tySize Tryd.prog 123 = some 1 := by kernel_rfl
theorem tyA123 : tyAgg Tryd.prog 123 = some false := by kernel_rfl
theorem zV123 : zerosV Tryd.prog 123 = some [.exact Go.Value.nilFunc] := by kernel_rfl
theorem F123 : (tySize Tryd.prog 123 = some 1) ∧ (tyAgg Tryd.prog 123 = some false) ∧ (zerosV Tryd.prog 123 = some [.exact Go.Value.nilFunc]) ∧ (Tryd.prog.underlying 123 = some (Go.TypeDesc.func #[39] #[3] false)) := And.intro tyS123 (And.intro tyA123 (And.intro zV123 (Tryd.underlying123)))
theorem tyS124 : tySize Tryd.prog 124 = some 32 := by kernel_rfl
theorem tyA124 : tyAgg Tryd.prog 124 = some true := by kernel_rfl
theorem zV124 : zerosV Tryd.prog 124 = some [.int .u8 0, .int .u8 0, .int .u8 0, .int .u8 0, .int .u8 0, .int .u8 0, .int .u8 0, .int .u8 0, .int .u8 0, .int .u8 0, .int .u8 0, .int .u8 0, .int .u8 0, .int .u8 0, .int .u8 0, .int .u8 0, .int .u8 0, .int .u8 0, .int .u8 0, .int .u8 0, .int .u8 0, .int .u8 0, .int .u8 0, .int .u8 0, .int .u8 0, .int .u8 0, .int .u8 0, .int .u8 0, .int .u8 0, .int .u8 0, .int .u8 0, .int .u8 0] := by kernel_rfl
theorem iK124 : isKey Tryd.prog 124 = some (32, 5) := by kernel_rfl
theorem F124 : (tySize Tryd.prog 124 = some 32) ∧ (tyAgg Tryd.prog 124 = some true) ∧ (zerosV Tryd.prog 124 = some [.int .u8 0, .int .u8 0, .int .u8 0, .int .u8 0, .int .u8 0, .int .u8 0, .int .u8 0, .int .u8 0, .int .u8 0, .int .u8 0, .int .u8 0, .int .u8 0, .int .u8 0, .int .u8 0, .int .u8 0, .int .u8 0, .int .u8 0, .int .u8 0, .int .u8 0, .int .u8 0, .int .u8 0, .int .u8 0, .int .u8 0, .int .u8 0, .int .u8 0, .int .u8 0, .int .u8 0, .int .u8 0, .int .u8 0, .int .u8 0, .int .u8 0, .int .u8 0]) ∧ (isKey Tryd.prog 124 = some (32, 5)) ∧ (Tryd.prog.underlying 124 = some (Go.TypeDesc.array 32 5)) := And.intro tyS124 (And.intro tyA124 (And.intro zV124 (And.intro iK124 (Tryd.underlying124))))
theorem tyS125 : tySize Tryd.prog 125 = some 64 := by kernel_rfl
theorem tyA125 : tyAgg Tryd.prog 125 = some true := by kernel_rfl
theorem zV125 : zerosV Tryd.prog 125 = some [.int .u8 0, .int .u8 0, .int .u8 0, .int .u8 0, .int .u8 0, .int .u8 0, .int .u8 0, .int .u8 0, .int .u8 0, .int .u8 0, .int .u8 0, .int .u8 0, .int .u8 0, .int .u8 0, .int .u8 0, .int .u8 0, .int .u8 0, .int .u8 0, .int .u8 0, .int .u8 0, .int .u8 0, .int .u8 0, .int .u8 0, .int .u8 0, .int .u8 0, .int .u8 0, .int .u8 0, .int .u8 0, .int .u8 0, .int .u8 0, .int .u8 0, .int .u8 0, .int .u8 0, .int .u8 0, .int .u8 0, .int .u8 0, .int .u8 0, .int .u8 0, .int .u8 0, .int .u8 0, .int .u8 0, .int .u8 0, .int .u8 0, .int .u8 0, .int .u8 0, .int .u8 0, .int .u8 0, .int .u8 0, .int .u8 0, .int .u8 0, .int .u8 0, .int .u8 0, .int .u8 0, .int .u8 0, .int .u8 0, .int .u8 0, .int .u8 0, .int .u8 0, .int .u8 0, .int .u8 0, .int .u8 0, .int .u8 0, .int .u8 0, .int .u8 0] := by kernel_rfl
theorem iK125 : isKey Tryd.prog 125 = some (64, 5) := by kernel_rfl
theorem F125 : (tySize Tryd.prog 125 = some 64) ∧ (tyAgg Tryd.prog 125 = some true) ∧ (zerosV Tryd.prog 125 = some [.int .u8 0, .int .u8 0, .int .u8 0, .int .u8 0, .int .u8 0, .int .u8 0, .int .u8 0, .int .u8 0, .int .u8 0, .int .u8 0, .int .u8 0, .int .u8 0, .int .u8 0, .int .u8 0, .int .u8 0, .int .u8 0, .int .u8 0, .int .u8 0, .int .u8 0, .int .u8 0, .int .u8 0, .int .u8 0, .int .u8 0, .int .u8 0, .int .u8 0, .int .u8 0, .int .u8 0, .int .u8 0, .int .u8 0, .int .u8 0, .int .u8 0, .int .u8 0, .int .u8 0, .int .u8 0, .int .u8 0, .int .u8 0, .int .u8 0, .int .u8 0, .int .u8 0, .int .u8 0, .int .u8 0, .int .u8 0, .int .u8 0, .int .u8 0, .int .u8 0, .int .u8 0, .int .u8 0, .int .u8 0, .int .u8 0, .int .u8 0, .int .u8 0, .int .u8 0, .int .u8 0, .int .u8 0, .int .u8 0, .int .u8 0, .int .u8 0, .int .u8 0, .int .u8 0, .int .u8 0, .int .u8 0, .int .u8 0, .int .u8 0, .int .u8 0]) ∧ (isKey Tryd.prog 125 = some (64, 5)) ∧ (Tryd.prog.underlying 125 = some (Go.TypeDesc.array 64 5)) := And.intro tyS125 (And.intro tyA125 (And.intro zV125 (And.intro iK125 (Tryd.underlying125))))
theorem tyS126 : tySize Tryd.prog 126 = some 4 := by kernel_rfl
theorem tyA126 : tyAgg Tryd.prog 126 = some true := by kernel_rfl
theorem zV126 : zerosV Tryd.prog 126 = some [.exact (Go.Value.pointer none), .exact (Go.Value.pointer none), .exact (Go.Value.pointer none), .str []] := by kernel_rfl
theorem pl126 : places Tryd.prog 126 = some [(0, 1), (1, 1), (2, 1), (3, 1)] := by kernel_rfl
theorem fl126_0 : fld Tryd.prog 126 0 = some (0, 17) := by kernel_rfl
theorem fl126_1 : fld Tryd.prog 126 1 = some (1, 17) := by kernel_rfl
theorem fl126_2 : fld Tryd.prog 126 2 = some (2, 17) := by kernel_rfl
theorem fl126_3 : fld Tryd.prog 126 3 = some (3, 9) := by kernel_rfl
theorem F126 : (tySize Tryd.prog 126 = some 4) ∧ (tyAgg Tryd.prog 126 = some true) ∧ (zerosV Tryd.prog 126 = some [.exact (Go.Value.pointer none), .exact (Go.Value.pointer none), .exact (Go.Value.pointer none), .str []]) ∧ (places Tryd.prog 126 = some [(0, 1), (1, 1), (2, 1), (3, 1)]) ∧ (fld Tryd.prog 126 0 = some (0, 17)) ∧ (fld Tryd.prog 126 1 = some (1, 17)) ∧ (fld Tryd.prog 126 2 = some (2, 17)) ∧ (fld Tryd.prog 126 3 = some (3, 9)) := And.intro tyS126 (And.intro tyA126 (And.intro zV126 (And.intro pl126 (And.intro fl126_0 (And.intro fl126_1 (And.intro fl126_2 (fl126_3)))))))
theorem tyS127 : tySize Tryd.prog 127 = some 4 := by kernel_rfl
theorem tyA127 : tyAgg Tryd.prog 127 = some true := by kernel_rfl
theorem zV127 : zerosV Tryd.prog 127 = some [.exact (Go.Value.pointer none), .exact (Go.Value.pointer none), .exact (Go.Value.pointer none), .str []] := by kernel_rfl
theorem pl127 : places Tryd.prog 127 = some [(0, 1), (1, 1), (2, 1), (3, 1)] := by kernel_rfl
theorem fl127_0 : fld Tryd.prog 127 0 = some (0, 17) := by kernel_rfl
theorem fl127_1 : fld Tryd.prog 127 1 = some (1, 17) := by kernel_rfl
theorem fl127_2 : fld Tryd.prog 127 2 = some (2, 17) := by kernel_rfl
theorem fl127_3 : fld Tryd.prog 127 3 = some (3, 9) := by kernel_rfl
theorem F127 : (tySize Tryd.prog 127 = some 4) ∧ (tyAgg Tryd.prog 127 = some true) ∧ (zerosV Tryd.prog 127 = some [.exact (Go.Value.pointer none), .exact (Go.Value.pointer none), .exact (Go.Value.pointer none), .str []]) ∧ (places Tryd.prog 127 = some [(0, 1), (1, 1), (2, 1), (3, 1)]) ∧ (fld Tryd.prog 127 0 = some (0, 17)) ∧ (fld Tryd.prog 127 1 = some (1, 17)) ∧ (fld Tryd.prog 127 2 = some (2, 17)) ∧ (fld Tryd.prog 127 3 = some (3, 9)) := And.intro tyS127 (And.intro tyA127 (And.intro zV127 (And.intro pl127 (And.intro fl127_0 (And.intro fl127_1 (And.intro fl127_2 (fl127_3)))))))
theorem tyS128 : tySize Tryd.prog 128 = some 0 := by kernel_rfl
theorem tyA128 : tyAgg Tryd.prog 128 = some true := by kernel_rfl
theorem zV128 : zerosV Tryd.prog 128 = some [] := by kernel_rfl
theorem F128 : (tySize Tryd.prog 128 = some 0) ∧ (tyAgg Tryd.prog 128 = some true) ∧ (zerosV Tryd.prog 128 = some []) ∧ (Tryd.prog.underlying 128 = some (Go.TypeDesc.array 0 16)) := And.intro tyS128 (And.intro tyA128 (And.intro zV128 (Tryd.underlying128)))
theorem tyS129 : tySize Tryd.prog 129 = some 0 := by kernel_rfl
theorem tyA129 : tyAgg Tryd.prog 129 = some true := by kernel_rfl
theorem zV129 : zerosV Tryd.prog 129 = some [] := by kernel_rfl
theorem pl129 : places Tryd.prog 129 = some [(0, 0)] := by kernel_rfl
theorem fl129_0 : fld Tryd.prog 129 0 = some (0, 128) := by kernel_rfl
theorem F129 : (tySize Tryd.prog 129 = some 0) ∧ (tyAgg Tryd.prog 129 = some true) ∧ (zerosV Tryd.prog 129 = some []) ∧ (places Tryd.prog 129 = some [(0, 0)]) ∧ (fld Tryd.prog 129 0 = some (0, 128)) ∧ (Tryd.prog.underlying 129 = some (Go.TypeDesc.struct #[{ name := "_", type := 128, offset := 0, embedded := false, tag := "", pkgPath := "runtime", byteOffset := 0 }])) := And.intro tyS129 (And.intro tyA129 (And.intro zV129 (And.intro pl129 (And.intro fl129_0 (Tryd.underlying129)))))
theorem tyS130 : tySize Tryd.prog 130 = some 0 := by kernel_rfl
theorem tyA130 : tyAgg Tryd.prog 130 = some true := by kernel_rfl
theorem zV130 : zerosV Tryd.prog 130 = some [] := by kernel_rfl
theorem pl130 : places Tryd.prog 130 = some [(0, 0)] := by kernel_rfl
theorem fl130_0 : fld Tryd.prog 130 0 = some (0, 128) := by kernel_rfl
theorem F130 : (tySize Tryd.prog 130 = some 0) ∧ (tyAgg Tryd.prog 130 = some true) ∧ (zerosV Tryd.prog 130 = some []) ∧ (places Tryd.prog 130 = some [(0, 0)]) ∧ (fld Tryd.prog 130 0 = some (0, 128)) ∧ (Tryd.prog.underlying 130 = some (Go.TypeDesc.struct #[{ name := "_", type := 128, offset := 0, embedded := false, tag := "", pkgPath := "runtime", byteOffset := 0 }])) := And.intro tyS130 (And.intro tyA130 (And.intro zV130 (And.intro pl130 (And.intro fl130_0 (Tryd.underlying130)))))
theorem tyS131 : tySize Tryd.prog 131 = some 1 := by kernel_rfl
theorem tyA131 : tyAgg Tryd.prog 131 = some false := by kernel_rfl
theorem zV131 : zerosV Tryd.prog 131 = some [.exact Go.Value.nilFunc] := by kernel_rfl
theorem F131 : (tySize Tryd.prog 131 = some 1) ∧ (tyAgg Tryd.prog 131 = some false) ∧ (zerosV Tryd.prog 131 = some [.exact Go.Value.nilFunc]) ∧ (Tryd.prog.underlying 131 = some (Go.TypeDesc.func #[] #[3] false)) := And.intro tyS131 (And.intro tyA131 (And.intro zV131 (Tryd.underlying131)))
theorem tyS132 : tySize Tryd.prog 132 = some 1 := by kernel_rfl
theorem tyA132 : tyAgg Tryd.prog 132 = some false := by kernel_rfl
theorem zV132 : zerosV Tryd.prog 132 = some [.int .u8 0] := by kernel_rfl
theorem F132 : (tySize Tryd.prog 132 = some 1) ∧ (tyAgg Tryd.prog 132 = some false) ∧ (zerosV Tryd.prog 132 = some [.int .u8 0]) ∧ (Tryd.prog.underlying 132 = some (Go.TypeDesc.int Go.IntKind.u8)) := And.intro tyS132 (And.intro tyA132 (And.intro zV132 (Tryd.underlying132)))
theorem tyS133 : tySize Tryd.prog 133 = some 1 := by kernel_rfl
theorem tyA133 : tyAgg Tryd.prog 133 = some false := by kernel_rfl
theorem zV133 : zerosV Tryd.prog 133 = some [.int .u8 0] := by kernel_rfl
theorem F133 : (tySize Tryd.prog 133 = some 1) ∧ (tyAgg Tryd.prog 133 = some false) ∧ (zerosV Tryd.prog 133 = some [.int .u8 0]) ∧ (Tryd.prog.underlying 133 = some (Go.TypeDesc.int Go.IntKind.u8)) := And.intro tyS133 (And.intro tyA133 (And.intro zV133 (Tryd.underlying133)))
theorem tyS134 : tySize Tryd.prog 134 = some 1 := by kernel_rfl
theorem tyA134 : tyAgg Tryd.prog 134 = some false := by kernel_rfl
theorem zV134 : zerosV Tryd.prog 134 = some [.exact Go.Value.nilFunc] := by kernel_rfl
theorem F134 : (tySize Tryd.prog 134 = some 1) ∧ (tyAgg Tryd.prog 134 = some false) ∧ (zerosV Tryd.prog 134 = some [.exact Go.Value.nilFunc]) ∧ (Tryd.prog.underlying 134 = some (Go.TypeDesc.func #[101, 101] #[4] false)) := And.intro tyS134 (And.intro tyA134 (And.intro zV134 (Tryd.underlying134)))
theorem tyS135 : tySize Tryd.prog 135 = some 1 := by kernel_rfl
theorem tyA135 : tyAgg Tryd.prog 135 = some false := by kernel_rfl
theorem zV135 : zerosV Tryd.prog 135 = some [.int .i32 0] := by kernel_rfl
theorem F135 : (tySize Tryd.prog 135 = some 1) ∧ (tyAgg Tryd.prog 135 = some false) ∧ (zerosV Tryd.prog 135 = some [.int .i32 0]) ∧ (Tryd.prog.underlying 135 = some (Go.TypeDesc.int Go.IntKind.i32)) := And.intro tyS135 (And.intro tyA135 (And.intro zV135 (Tryd.underlying135)))
theorem tyS136 : tySize Tryd.prog 136 = some 1 := by kernel_rfl
theorem tyA136 : tyAgg Tryd.prog 136 = some false := by kernel_rfl
theorem zV136 : zerosV Tryd.prog 136 = some [.int .i32 0] := by kernel_rfl
theorem F136 : (tySize Tryd.prog 136 = some 1) ∧ (tyAgg Tryd.prog 136 = some false) ∧ (zerosV Tryd.prog 136 = some [.int .i32 0]) ∧ (Tryd.prog.underlying 136 = some (Go.TypeDesc.int Go.IntKind.i32)) := And.intro tyS136 (And.intro tyA136 (And.intro zV136 (Tryd.underlying136)))
theorem tyS137 : tySize Tryd.prog 137 = some 11 := by kernel_rfl
theorem tyA137 : tyAgg Tryd.prog 137 = some true := by kernel_rfl
theorem zV137 : zerosV Tryd.prog 137 = some [.int .u64 0, .int .u64 0, .int .u32 0, .int .u8 0, .int .u8 0, .int .u8 0, .int .u8 0, .exact Go.Value.nilFunc, .exact (Go.Value.pointer none), .int .i32 0, .int .i32 0] := by kernel_rfl
theorem pl137 : places Tryd.prog 137 = some [(0, 1), (1, 1), (2, 1), (3, 1), (4, 1), (5, 1), (6, 1), (7, 1), (8, 1), (9, 1), (10, 1)] := by kernel_rfl
theorem fl137_0 : fld Tryd.prog 137 0 = some (0, 12) := by kernel_rfl
theorem fl137_1 : fld Tryd.prog 137 1 = some (1, 12) := by kernel_rfl
theorem fl137_2 : fld Tryd.prog 137 2 = some (2, 39) := by kernel_rfl
theorem fl137_3 : fld Tryd.prog 137 3 = some (3, 132) := by kernel_rfl
theorem fl137_4 : fld Tryd.prog 137 4 = some (4, 5) := by kernel_rfl
theorem fl137_5 : fld Tryd.prog 137 5 = some (5, 5) := by kernel_rfl
theorem fl137_6 : fld Tryd.prog 137 6 = some (6, 133) := by kernel_rfl
theorem fl137_7 : fld Tryd.prog 137 7 = some (7, 134) := by kernel_rfl
theorem fl137_8 : fld Tryd.prog 137 8 = some (8, 83) := by kernel_rfl
theorem fl137_9 : fld Tryd.prog 137 9 = some (9, 135) := by kernel_rfl
theorem fl137_10 : fld Tryd.prog 137 10 = some (10, 136) := by kernel_rfl
theorem F137 : (tySize Tryd.prog 137 = some 11) ∧ (tyAgg Tryd.prog 137 = some true) ∧ (zerosV Tryd.prog 137 = some [.int .u64 0, .int .u64 0, .int .u32 0, .int .u8 0, .int .u8 0, .int .u8 0, .int .u8 0, .exact Go.Value.nilFunc, .exact (Go.Value.pointer none), .int .i32 0, .int .i32 0]) ∧ (places Tryd.prog 137 = some [(0, 1), (1, 1), (2, 1), (3, 1), (4, 1), (5, 1), (6, 1), (7, 1), (8, 1), (9, 1), (10, 1)]) ∧ (fld Tryd.prog 137 0 = some (0, 12)) ∧ (fld Tryd.prog 137 1 = some (1, 12)) ∧ (fld Tryd.prog 137 2 = some (2, 39)) ∧ (fld Tryd.prog 137 3 = some (3, 132)) ∧ (fld Tryd.prog 137 4 = some (4, 5)) ∧ (fld Tryd.prog 137 5 = some (5, 5)) ∧ (fld Tryd.prog 137 6 = some (6, 133)) ∧ (fld Tryd.prog 137 7 = some (7, 134)) ∧ (fld Tryd.prog 137 8 = some (8, 83)) ∧ (fld Tryd.prog 137 9 = some (9, 135)) ∧ (fld Tryd.prog 137 10 = some (10, 136)) ∧ (Tryd.prog.underlying 137 = some (Go.TypeDesc.struct #[{ name := "Size_", type := 12, offset := 0, embedded := false, tag := "", pkgPath := "", byteOffset := 0 }, { name := "PtrBytes", type := 12, offset := 1, embedded := false, tag := "", pkgPath := "", byteOffset := 8 }, { name := "Hash", type := 39, offset := 2, embedded := false, tag := "", pkgPath := "", byteOffset := 16 }, { name := "TFlag", type := 132, offset := 3, embedded := false, tag := "", pkgPath := "", byteOffset := 20 }, { name := "Align_", type := 5, offset := 4, embedded := false, tag := "", pkgPath := "", byteOffset := 21 }, { name := "FieldAlign_", type := 5, offset := 5, embedded := false, tag := "", pkgPath := "", byteOffset := 22 }, { name := "Kind_", type := 133, offset := 6, embedded := false, tag := "", pkgPath := "", byteOffset := 23 }, { name := "Equal", type := 134, offset := 7, embedded := false, tag := "", pkgPath := "", byteOffset := 24 }, { name := "GCData", type := 83, offset := 8, embedded := false, tag := "", pkgPath := "", byteOffset := 32 }, { name := "Str", type := 135, offset := 9, embedded := false, tag := "", pkgPath := "", byteOffset := 40 }, { name := "PtrToThis", type := 136, offset := 10, embedded := false, tag := "", pkgPath := "", byteOffset := 44 }])) := And.intro tyS137 (And.intro tyA137 (And.intro zV137 (And.intro pl137 (And.intro fl137_0 (And.intro fl137_1 (And.intro fl137_2 (And.intro fl137_3 (And.intro fl137_4 (And.intro fl137_5 (And.intro fl137_6 (And.intro fl137_7 (And.intro fl137_8 (And.intro fl137_9 (And.intro fl137_10 (Tryd.underlying137)))))))))))))))
theorem tyS138 : tySize Tryd.prog 138 = some 11 := by kernel_rfl
theorem tyA138 : tyAgg Tryd.prog 138 = some true := by kernel_rfl
theorem zV138 : zerosV Tryd.prog 138 = some [.int .u64 0, .int .u64 0, .int .u32 0, .int .u8 0, .int .u8 0, .int .u8 0, .int .u8 0, .exact Go.Value.nilFunc, .exact (Go.Value.pointer none), .int .i32 0, .int .i32 0] := by kernel_rfl
theorem pl138 : places Tryd.prog 138 = some [(0, 1), (1, 1), (2, 1), (3, 1), (4, 1), (5, 1), (6, 1), (7, 1), (8, 1), (9, 1), (10, 1)] := by kernel_rfl
theorem fl138_0 : fld Tryd.prog 138 0 = some (0, 12) := by kernel_rfl
theorem fl138_1 : fld Tryd.prog 138 1 = some (1, 12) := by kernel_rfl
theorem fl138_2 : fld Tryd.prog 138 2 = some (2, 39) := by kernel_rfl
theorem fl138_3 : fld Tryd.prog 138 3 = some (3, 132) := by kernel_rfl
theorem fl138_4 : fld Tryd.prog 138 4 = some (4, 5) := by kernel_rfl
theorem fl138_5 : fld Tryd.prog 138 5 = some (5, 5) := by kernel_rfl
theorem fl138_6 : fld Tryd.prog 138 6 = some (6, 133) := by kernel_rfl
theorem fl138_7 : fld Tryd.prog 138 7 = some (7, 134) := by kernel_rfl
theorem fl138_8 : fld Tryd.prog 138 8 = some (8, 83) := by kernel_rfl
theorem fl138_9 : fld Tryd.prog 138 9 = some (9, 135) := by kernel_rfl
theorem fl138_10 : fld Tryd.prog 138 10 = some (10, 136) := by kernel_rfl
theorem F138 : (tySize Tryd.prog 138 = some 11) ∧ (tyAgg Tryd.prog 138 = some true) ∧ (zerosV Tryd.prog 138 = some [.int .u64 0, .int .u64 0, .int .u32 0, .int .u8 0, .int .u8 0, .int .u8 0, .int .u8 0, .exact Go.Value.nilFunc, .exact (Go.Value.pointer none), .int .i32 0, .int .i32 0]) ∧ (places Tryd.prog 138 = some [(0, 1), (1, 1), (2, 1), (3, 1), (4, 1), (5, 1), (6, 1), (7, 1), (8, 1), (9, 1), (10, 1)]) ∧ (fld Tryd.prog 138 0 = some (0, 12)) ∧ (fld Tryd.prog 138 1 = some (1, 12)) ∧ (fld Tryd.prog 138 2 = some (2, 39)) ∧ (fld Tryd.prog 138 3 = some (3, 132)) ∧ (fld Tryd.prog 138 4 = some (4, 5)) ∧ (fld Tryd.prog 138 5 = some (5, 5)) ∧ (fld Tryd.prog 138 6 = some (6, 133)) ∧ (fld Tryd.prog 138 7 = some (7, 134)) ∧ (fld Tryd.prog 138 8 = some (8, 83)) ∧ (fld Tryd.prog 138 9 = some (9, 135)) ∧ (fld Tryd.prog 138 10 = some (10, 136)) ∧ (Tryd.prog.underlying 138 = some (Go.TypeDesc.struct #[{ name := "Size_", type := 12, offset := 0, embedded := false, tag := "", pkgPath := "", byteOffset := 0 }, { name := "PtrBytes", type := 12, offset := 1, embedded := false, tag := "", pkgPath := "", byteOffset := 8 }, { name := "Hash", type := 39, offset := 2, embedded := false, tag := "", pkgPath := "", byteOffset := 16 }, { name := "TFlag", type := 132, offset := 3, embedded := false, tag := "", pkgPath := "", byteOffset := 20 }, { name := "Align_", type := 5, offset := 4, embedded := false, tag := "", pkgPath := "", byteOffset := 21 }, { name := "FieldAlign_", type := 5, offset := 5, embedded := false, tag := "", pkgPath := "", byteOffset := 22 }, { name := "Kind_", type := 133, offset := 6, embedded := false, tag := "", pkgPath := "", byteOffset := 23 }, { name := "Equal", type := 134, offset := 7, embedded := false, tag := "", pkgPath := "", byteOffset := 24 }, { name := "GCData", type := 83, offset := 8, embedded := false, tag := "", pkgPath := "", byteOffset := 32 }, { name := "Str", type := 135, offset := 9, embedded := false, tag := "", pkgPath := "", byteOffset := 40 }, { name := "PtrToThis", type := 136, offset := 10, embedded := false, tag := "", pkgPath := "", byteOffset := 44 }])) := And.intro tyS138 (And.intro tyA138 (And.intro zV138 (And.intro pl138 (And.intro fl138_0 (And.intro fl138_1 (And.intro fl138_2 (And.intro fl138_3 (And.intro fl138_4 (And.intro fl138_5 (And.intro fl138_6 (And.intro fl138_7 (And.intro fl138_8 (And.intro fl138_9 (And.intro fl138_10 (Tryd.underlying138)))))))))))))))
theorem eI23 : elemI Tryd.prog 23 = some (9, 1, 16) := by kernel_rfl
theorem eI40 : elemI Tryd.prog 40 = some (3, 1, 8) := by kernel_rfl
theorem eI43 : elemI Tryd.prog 43 = some (5, 1, 1) := by kernel_rfl
theorem eI66 : elemI Tryd.prog 66 = some (65, 1, 8) := by kernel_rfl
end Go.Proofs.YtfagngmikbmmhaaDoor.A
