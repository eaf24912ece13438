/- What the program says of the types and functions that this seat's texts meet: closed facts, by the kernel. Printed by a program of this workplace (types.py). -/
import Derived.Test.YtpboahlpgfglkaaProg
import Derived.Test.YtpboahlpgfglkaaX9
namespace Go.Proofs.Ytpboahlpgfglkaa.X
open Go
set_option maxRecDepth 100000
instance ti3 : TI Try.prog 3 (.int .i64) (.int .i64 0) 1 8 := ⟨Try.underlying3, by kernel_rfl⟩
instance ti4 : TI Try.prog 4 (.bool) (.bool false) 1 1 := ⟨Try.underlying4, by kernel_rfl⟩
instance ti5 : TI Try.prog 5 (.int .u8) (u8 0) 1 1 := ⟨Try.underlying5, by kernel_rfl⟩
instance ti9 : TI Try.prog 9 (.string) (.string ⟨#[]⟩) 1 16 := ⟨Try.underlying9, by kernel_rfl⟩
instance ti17 : TI Try.prog 17 (.pointer 57) (.pointer none) 1 8 := ⟨Try.underlying17, by kernel_rfl⟩
instance ti19 : TI Try.prog 19 ((TypeDesc.struct #[{ name := "typ", type := 17, offset := 0, embedded := false, tag := "", pkgPath := "internal/runtime/maps", byteOffset := 0 }])) (.agg (([.pointer none] : List Value)).toArray) 1 8 := ⟨Try.underlying19, by kernel_rfl⟩
instance ti22 : TI Try.prog 22 (.slice 5) (.slice none 0 0) 1 24 := ⟨Try.underlying22, by kernel_rfl⟩
instance ti25 : TI Try.prog 25 ((TypeDesc.struct #[{ name := "Batch", type := 3, offset := 0, embedded := false, tag := "", pkgPath := "", byteOffset := 0 }, { name := "Message", type := 3, offset := 1, embedded := false, tag := "", pkgPath := "", byteOffset := 8 }, { name := "Buckets", type := 3, offset := 2, embedded := false, tag := "", pkgPath := "", byteOffset := 16 }, { name := "Text", type := 3, offset := 3, embedded := false, tag := "", pkgPath := "", byteOffset := 24 }, { name := "Window", type := 3, offset := 4, embedded := false, tag := "", pkgPath := "", byteOffset := 32 }, { name := "Workers", type := 3, offset := 5, embedded := false, tag := "", pkgPath := "", byteOffset := 40 }])) (.agg (([.int .i64 0, .int .i64 0, .int .i64 0, .int .i64 0, .int .i64 0, .int .i64 0] : List Value)).toArray) 6 48 := ⟨Try.underlying25, by kernel_rfl⟩
instance ti26 : TI Try.prog 26 (.int .i64) (.int .i64 0) 1 8 := ⟨Try.underlying26, by kernel_rfl⟩
instance ti30 : TI Try.prog 30 (.pointer 39) (.pointer none) 1 8 := ⟨Try.underlying30, by kernel_rfl⟩
instance ti32 : TI Try.prog 32 (.pointer 3) (.pointer none) 1 8 := ⟨Try.underlying32, by kernel_rfl⟩
instance ti33 : TI Try.prog 33 (.slice 32) (.slice none 0 0) 1 24 := ⟨Try.underlying33, by kernel_rfl⟩
instance ti34 : TI Try.prog 34 (.int .u32) (u32 0) 1 4 := ⟨Try.underlying34, by kernel_rfl⟩
instance ti39 : TI Try.prog 39 ((TypeDesc.struct #[{ name := "rest", type := 22, offset := 0, embedded := false, tag := "", pkgPath := "tryst/octet", byteOffset := 0 }, { name := "err", type := 26, offset := 1, embedded := false, tag := "", pkgPath := "tryst/octet", byteOffset := 24 }])) (.agg (([.slice none 0 0, .int .i64 0] : List Value)).toArray) 2 32 := ⟨Try.underlying39, by kernel_rfl⟩
instance ti51 : TI Try.prog 51 (.int .u8) (u8 0) 1 1 := ⟨Try.underlying51, by kernel_rfl⟩
instance fa19_0 : FA Try.prog 19 0 0 := ⟨by kernel_rfl⟩
instance fa25_0 : FA Try.prog 25 0 0 := ⟨by kernel_rfl⟩
instance fa25_1 : FA Try.prog 25 1 1 := ⟨by kernel_rfl⟩
instance fa25_2 : FA Try.prog 25 2 2 := ⟨by kernel_rfl⟩
instance fa25_3 : FA Try.prog 25 3 3 := ⟨by kernel_rfl⟩
instance fa25_4 : FA Try.prog 25 4 4 := ⟨by kernel_rfl⟩
instance fa25_5 : FA Try.prog 25 5 5 := ⟨by kernel_rfl⟩
instance fa39_0 : FA Try.prog 39 0 0 := ⟨by kernel_rfl⟩
instance fa39_1 : FA Try.prog 39 1 1 := ⟨by kernel_rfl⟩
instance fn3 : Fn Try.prog 3 := ⟨Try.f3, Try.func3, by kernel_rfl, by kernel_rfl⟩
instance fn4 : Fn Try.prog 4 := ⟨Try.f4, Try.func4, by kernel_rfl, by kernel_rfl⟩
instance fn5 : Fn Try.prog 5 := ⟨Try.f5, Try.func5, by kernel_rfl, by kernel_rfl⟩
instance fn6 : Fn Try.prog 6 := ⟨Try.f6, Try.func6, by kernel_rfl, by kernel_rfl⟩
instance fn7 : Fn Try.prog 7 := ⟨Try.f7, Try.func7, by kernel_rfl, by kernel_rfl⟩
instance fn8 : Fn Try.prog 8 := ⟨Try.f8, Try.func8, by kernel_rfl, by kernel_rfl⟩
instance fn9 : Fn Try.prog 9 := ⟨Try.f9, Try.func9, by kernel_rfl, by kernel_rfl⟩
instance fn10 : Fn Try.prog 10 := ⟨Try.f10, Try.func10, by kernel_rfl, by kernel_rfl⟩
instance fn11 : Fn Try.prog 11 := ⟨Try.f11, Try.func11, by kernel_rfl, by kernel_rfl⟩
instance fn12 : Fn Try.prog 12 := ⟨Try.f12, Try.func12, by kernel_rfl, by kernel_rfl⟩
instance fn13 : Fn Try.prog 13 := ⟨Try.f13, Try.func13, by kernel_rfl, by kernel_rfl⟩
instance fn14 : Fn Try.prog 14 := ⟨Try.f14, Try.func14, by kernel_rfl, by kernel_rfl⟩
instance fn15 : Fn Try.prog 15 := ⟨Try.f15, Try.func15, by kernel_rfl, by kernel_rfl⟩
instance fn16 : Fn Try.prog 16 := ⟨Try.f16, Try.func16, by kernel_rfl, by kernel_rfl⟩
instance fn17 : Fn Try.prog 17 := ⟨Try.f17, Try.func17, by kernel_rfl, by kernel_rfl⟩
end Go.Proofs.Ytpboahlpgfglkaa.X
