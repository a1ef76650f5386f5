/- MADE BY PROGRAM (wip/gen/gentab.py): what the types are that the code uses. -/
import Derived.Test.YtamefliipjhpoaaGreatAbsN
import Derived.Test.YtamefliipjhpoaaGreatRows
set_option autoImplicit false
namespace Go.Proofs.YtamefliipjhpoaaGreat.Ab
open Go Go.Proofs

theorem info_of {P : Program} {t : TypeId} {i : TypeInfo} (h : ∀ w, (typeInfo t).run P w = .ok i w) : P.info? t = some i := by
  have h := h default
  cases hi : P.info? t with
  | none => simp [typeInfo, hi] at h
  | some j => simp [typeInfo, hi] at h; rw [h]

theorem i3 : Tryz.prog.info? 3 = some Tryz.t3 := info_of Tryz.typeInfo3
@[simp] theorem u3 : Tryz.prog.underlying 3 = some (Go.TypeDesc.int Go.IntKind.i64) := Tryz.underlying3
@[simp] theorem ag3 : aggB Tryz.prog 3 = some false := by unfold aggB; rw [u3]
@[simp] theorem sz3 : szT Tryz.prog 3 = some 1 := by unfold szT; rw [i3]; rfl
@[simp] theorem ze3 : zeroT Tryz.prog 3 = some [A.d (D.v (Go.Value.int Go.IntKind.i64 0))] := by unfold zeroT; rw [i3]; rfl
@[simp] theorem em3 : elemT Tryz.prog 3 = some (1, 8) := by unfold elemT; rw [i3]; rfl
theorem i4 : Tryz.prog.info? 4 = some Tryz.t4 := info_of Tryz.typeInfo4
@[simp] theorem u4 : Tryz.prog.underlying 4 = some (Go.TypeDesc.bool ) := Tryz.underlying4
@[simp] theorem ag4 : aggB Tryz.prog 4 = some false := by unfold aggB; rw [u4]
@[simp] theorem sz4 : szT Tryz.prog 4 = some 1 := by unfold szT; rw [i4]; rfl
@[simp] theorem ze4 : zeroT Tryz.prog 4 = some [A.d (D.v (Go.Value.bool Bool.false))] := by unfold zeroT; rw [i4]; rfl
@[simp] theorem em4 : elemT Tryz.prog 4 = some (1, 1) := by unfold elemT; rw [i4]; rfl
theorem i5 : Tryz.prog.info? 5 = some Tryz.t5 := info_of Tryz.typeInfo5
@[simp] theorem u5 : Tryz.prog.underlying 5 = some (Go.TypeDesc.int Go.IntKind.u8) := Tryz.underlying5
@[simp] theorem ag5 : aggB Tryz.prog 5 = some false := by unfold aggB; rw [u5]
@[simp] theorem sz5 : szT Tryz.prog 5 = some 1 := by unfold szT; rw [i5]; rfl
@[simp] theorem ze5 : zeroT Tryz.prog 5 = some [A.d (D.v (Go.Value.int Go.IntKind.u8 0))] := by unfold zeroT; rw [i5]; rfl
@[simp] theorem em5 : elemT Tryz.prog 5 = some (1, 1) := by unfold elemT; rw [i5]; rfl
theorem i9 : Tryz.prog.info? 9 = some Tryz.t9 := info_of Tryz.typeInfo9
@[simp] theorem u9 : Tryz.prog.underlying 9 = some (Go.TypeDesc.string ) := Tryz.underlying9
@[simp] theorem ag9 : aggB Tryz.prog 9 = some false := by unfold aggB; rw [u9]
@[simp] theorem sz9 : szT Tryz.prog 9 = some 1 := by unfold szT; rw [i9]; rfl
@[simp] theorem ze9 : zeroT Tryz.prog 9 = some [A.d (D.v (Go.Value.string { data := #[] }))] := by unfold zeroT; rw [i9]; rfl
@[simp] theorem em9 : elemT Tryz.prog 9 = some (1, 16) := by unfold elemT; rw [i9]; rfl
theorem i20 : Tryz.prog.info? 20 = some Tryz.t20 := info_of Tryz.typeInfo20
@[simp] theorem u20 : Tryz.prog.underlying 20 = some (Go.TypeDesc.interface #[]) := Tryz.underlying20
@[simp] theorem ag20 : aggB Tryz.prog 20 = some false := by unfold aggB; rw [u20]
@[simp] theorem sz20 : szT Tryz.prog 20 = some 1 := by unfold szT; rw [i20]; rfl
@[simp] theorem ze20 : zeroT Tryz.prog 20 = some [A.d (D.v (Go.Value.nilIface))] := by unfold zeroT; rw [i20]; rfl
@[simp] theorem em20 : elemT Tryz.prog 20 = some (1, 16) := by unfold elemT; rw [i20]; rfl
theorem i22 : Tryz.prog.info? 22 = some Tryz.t22 := info_of Tryz.typeInfo22
@[simp] theorem u22 : Tryz.prog.underlying 22 = some (Go.TypeDesc.slice 32) := Tryz.underlying22
@[simp] theorem ag22 : aggB Tryz.prog 22 = some false := by unfold aggB; rw [u22]
@[simp] theorem sz22 : szT Tryz.prog 22 = some 1 := by unfold szT; rw [i22]; rfl
@[simp] theorem el22 : elT Tryz.prog 22 = some 32 := by unfold elT; rw [u22]
@[simp] theorem ze22 : zeroT Tryz.prog 22 = some [A.sx 0 0 []] := by unfold zeroT; rw [i22]; rfl
@[simp] theorem em22 : elemT Tryz.prog 22 = some (1, 24) := by unfold elemT; rw [i22]; rfl
theorem i27 : Tryz.prog.info? 27 = some Tryz.t27 := info_of Tryz.typeInfo27
@[simp] theorem u27 : Tryz.prog.underlying 27 = some (Go.TypeDesc.int Go.IntKind.u64) := Tryz.underlying27
@[simp] theorem ag27 : aggB Tryz.prog 27 = some false := by unfold aggB; rw [u27]
@[simp] theorem sz27 : szT Tryz.prog 27 = some 1 := by unfold szT; rw [i27]; rfl
@[simp] theorem ze27 : zeroT Tryz.prog 27 = some [A.d (D.v (Go.Value.int Go.IntKind.u64 0))] := by unfold zeroT; rw [i27]; rfl
@[simp] theorem em27 : elemT Tryz.prog 27 = some (1, 8) := by unfold elemT; rw [i27]; rfl
theorem i28 : Tryz.prog.info? 28 = some Tryz.t28 := info_of Tryz.typeInfo28
@[simp] theorem u28 : Tryz.prog.underlying 28 = some (Go.TypeDesc.float Go.FloatKind.f64) := Tryz.underlying28
@[simp] theorem ag28 : aggB Tryz.prog 28 = some false := by unfold aggB; rw [u28]
@[simp] theorem sz28 : szT Tryz.prog 28 = some 1 := by unfold szT; rw [i28]; rfl
@[simp] theorem ze28 : zeroT Tryz.prog 28 = some [A.d (D.v (Go.Value.float Go.FloatKind.f64 0))] := by unfold zeroT; rw [i28]; rfl
@[simp] theorem em28 : elemT Tryz.prog 28 = some (1, 8) := by unfold elemT; rw [i28]; rfl
theorem i30 : Tryz.prog.info? 30 = some Tryz.t30 := info_of Tryz.typeInfo30
@[simp] theorem u30 : Tryz.prog.underlying 30 = some (Go.TypeDesc.struct #[{ name := "Kind", type := 3, offset := 0, embedded := Bool.false, tag := "", pkgPath := "", byteOffset := 0 }, { name := "Id", type := 27, offset := 1, embedded := Bool.false, tag := "", pkgPath := "", byteOffset := 8 }, { name := "List", type := 27, offset := 2, embedded := Bool.false, tag := "", pkgPath := "", byteOffset := 16 }, { name := "Text", type := 9, offset := 3, embedded := Bool.false, tag := "", pkgPath := "", byteOffset := 24 }, { name := "F", type := 28, offset := 4, embedded := Bool.false, tag := "", pkgPath := "", byteOffset := 40 }, { name := "Flag", type := 4, offset := 5, embedded := Bool.false, tag := "", pkgPath := "", byteOffset := 48 }]) := Tryz.underlying30
@[simp] theorem ag30 : aggB Tryz.prog 30 = some true := by unfold aggB; rw [u30]
@[simp] theorem sz30 : szT Tryz.prog 30 = some 6 := by unfold szT; rw [i30]; rfl
@[simp] theorem sh30 : Tryz.prog.stoodInHeld 30 = false := by decide +kernel
@[simp] theorem fl30_0 : fldT Tryz.prog 30 0 = some (0, 3) := by unfold fldT; rw [u30]; rfl
@[simp] theorem fl30_1 : fldT Tryz.prog 30 1 = some (1, 27) := by unfold fldT; rw [u30]; rfl
@[simp] theorem fl30_2 : fldT Tryz.prog 30 2 = some (2, 27) := by unfold fldT; rw [u30]; rfl
@[simp] theorem fl30_3 : fldT Tryz.prog 30 3 = some (3, 9) := by unfold fldT; rw [u30]; rfl
@[simp] theorem fl30_4 : fldT Tryz.prog 30 4 = some (4, 28) := by unfold fldT; rw [u30]; rfl
@[simp] theorem fl30_5 : fldT Tryz.prog 30 5 = some (5, 4) := by unfold fldT; rw [u30]; rfl
@[simp] theorem pl30 : plcT Tryz.prog 30 = some [(0, 1), (1, 1), (2, 1), (3, 1), (4, 1), (5, 1)] := by unfold plcT; rw [u30]; simp only [List.mapM_cons, List.mapM_nil, i27, i28, i3, i4, i9]; rfl
@[simp] theorem ze30 : zeroT Tryz.prog 30 = some [A.d (D.v (Go.Value.int Go.IntKind.i64 0)), A.d (D.v (Go.Value.int Go.IntKind.u64 0)), A.d (D.v (Go.Value.int Go.IntKind.u64 0)), A.d (D.v (Go.Value.string { data := #[] })), A.d (D.v (Go.Value.float Go.FloatKind.f64 0)), A.d (D.v (Go.Value.bool Bool.false))] := by unfold zeroT; rw [i30]; rfl
@[simp] theorem em30 : elemT Tryz.prog 30 = some (6, 56) := by unfold elemT; rw [i30]; rfl
theorem i32 : Tryz.prog.info? 32 = some Tryz.t32 := info_of Tryz.typeInfo32
@[simp] theorem u32 : Tryz.prog.underlying 32 = some (Go.TypeDesc.struct #[{ name := "Ident", type := 27, offset := 0, embedded := Bool.false, tag := "", pkgPath := "", byteOffset := 0 }, { name := "Id", type := 27, offset := 1, embedded := Bool.false, tag := "", pkgPath := "", byteOffset := 8 }, { name := "Mut", type := 30, offset := 2, embedded := Bool.false, tag := "", pkgPath := "", byteOffset := 16 }]) := Tryz.underlying32
@[simp] theorem ag32 : aggB Tryz.prog 32 = some true := by unfold aggB; rw [u32]
@[simp] theorem sz32 : szT Tryz.prog 32 = some 8 := by unfold szT; rw [i32]; rfl
@[simp] theorem sh32 : Tryz.prog.stoodInHeld 32 = false := by decide +kernel
@[simp] theorem fl32_0 : fldT Tryz.prog 32 0 = some (0, 27) := by unfold fldT; rw [u32]; rfl
@[simp] theorem fl32_1 : fldT Tryz.prog 32 1 = some (1, 27) := by unfold fldT; rw [u32]; rfl
@[simp] theorem fl32_2 : fldT Tryz.prog 32 2 = some (2, 30) := by unfold fldT; rw [u32]; rfl
@[simp] theorem pl32 : plcT Tryz.prog 32 = some [(0, 1), (1, 1), (2, 6)] := by unfold plcT; rw [u32]; simp only [List.mapM_cons, List.mapM_nil, i27, i30]; rfl
@[simp] theorem ze32 : zeroT Tryz.prog 32 = some [A.d (D.v (Go.Value.int Go.IntKind.u64 0)), A.d (D.v (Go.Value.int Go.IntKind.u64 0)), A.d (D.v (Go.Value.int Go.IntKind.i64 0)), A.d (D.v (Go.Value.int Go.IntKind.u64 0)), A.d (D.v (Go.Value.int Go.IntKind.u64 0)), A.d (D.v (Go.Value.string { data := #[] })), A.d (D.v (Go.Value.float Go.FloatKind.f64 0)), A.d (D.v (Go.Value.bool Bool.false))] := by unfold zeroT; rw [i32]; rfl
@[simp] theorem em32 : elemT Tryz.prog 32 = some (8, 72) := by unfold elemT; rw [i32]; rfl
theorem i34 : Tryz.prog.info? 34 = some Tryz.t34 := info_of Tryz.typeInfo34
@[simp] theorem u34 : Tryz.prog.underlying 34 = some (Go.TypeDesc.slice 50) := Tryz.underlying34
@[simp] theorem ag34 : aggB Tryz.prog 34 = some false := by unfold aggB; rw [u34]
@[simp] theorem sz34 : szT Tryz.prog 34 = some 1 := by unfold szT; rw [i34]; rfl
@[simp] theorem el34 : elT Tryz.prog 34 = some 50 := by unfold elT; rw [u34]
@[simp] theorem ze34 : zeroT Tryz.prog 34 = some [A.sx 0 0 []] := by unfold zeroT; rw [i34]; rfl
@[simp] theorem em34 : elemT Tryz.prog 34 = some (1, 24) := by unfold elemT; rw [i34]; rfl
theorem i36 : Tryz.prog.info? 36 = some Tryz.t36 := info_of Tryz.typeInfo36
@[simp] theorem u36 : Tryz.prog.underlying 36 = some (Go.TypeDesc.struct #[{ name := "Clients", type := 3, offset := 0, embedded := Bool.false, tag := "", pkgPath := "", byteOffset := 0 }, { name := "Disk", type := 3, offset := 1, embedded := Bool.false, tag := "", pkgPath := "", byteOffset := 8 }, { name := "Steps", type := 34, offset := 2, embedded := Bool.false, tag := "", pkgPath := "", byteOffset := 16 }]) := Tryz.underlying36
@[simp] theorem ag36 : aggB Tryz.prog 36 = some true := by unfold aggB; rw [u36]
@[simp] theorem sz36 : szT Tryz.prog 36 = some 3 := by unfold szT; rw [i36]; rfl
@[simp] theorem sh36 : Tryz.prog.stoodInHeld 36 = false := by decide +kernel
@[simp] theorem fl36_0 : fldT Tryz.prog 36 0 = some (0, 3) := by unfold fldT; rw [u36]; rfl
@[simp] theorem fl36_1 : fldT Tryz.prog 36 1 = some (1, 3) := by unfold fldT; rw [u36]; rfl
@[simp] theorem fl36_2 : fldT Tryz.prog 36 2 = some (2, 34) := by unfold fldT; rw [u36]; rfl
@[simp] theorem pl36 : plcT Tryz.prog 36 = some [(0, 1), (1, 1), (2, 1)] := by unfold plcT; rw [u36]; simp only [List.mapM_cons, List.mapM_nil, i3, i34]; rfl
@[simp] theorem ze36 : zeroT Tryz.prog 36 = some [A.d (D.v (Go.Value.int Go.IntKind.i64 0)), A.d (D.v (Go.Value.int Go.IntKind.i64 0)), A.sx 0 0 []] := by unfold zeroT; rw [i36]; rfl
@[simp] theorem em36 : elemT Tryz.prog 36 = some (3, 40) := by unfold elemT; rw [i36]; rfl
theorem i39 : Tryz.prog.info? 39 = some Tryz.t39 := info_of Tryz.typeInfo39
@[simp] theorem u39 : Tryz.prog.underlying 39 = some (Go.TypeDesc.map 41 4) := Tryz.underlying39
@[simp] theorem ag39 : aggB Tryz.prog 39 = some false := by unfold aggB; rw [u39]
@[simp] theorem sz39 : szT Tryz.prog 39 = some 1 := by unfold szT; rw [i39]; rfl
@[simp] theorem ze39 : zeroT Tryz.prog 39 = some [A.d (D.v (Go.Value.map Option.none))] := by unfold zeroT; rw [i39]; rfl
@[simp] theorem em39 : elemT Tryz.prog 39 = some (1, 8) := by unfold elemT; rw [i39]; rfl
theorem i41 : Tryz.prog.info? 41 = some Tryz.t41 := info_of Tryz.typeInfo41
@[simp] theorem u41 : Tryz.prog.underlying 41 = some (Go.TypeDesc.struct #[{ name := "ident", type := 27, offset := 0, embedded := Bool.false, tag := "", pkgPath := "factotum/model", byteOffset := 0 }, { name := "id", type := 27, offset := 1, embedded := Bool.false, tag := "", pkgPath := "factotum/model", byteOffset := 8 }]) := Tryz.underlying41
@[simp] theorem ag41 : aggB Tryz.prog 41 = some true := by unfold aggB; rw [u41]
@[simp] theorem sz41 : szT Tryz.prog 41 = some 2 := by unfold szT; rw [i41]; rfl
@[simp] theorem sh41 : Tryz.prog.stoodInHeld 41 = false := by decide +kernel
@[simp] theorem fl41_0 : fldT Tryz.prog 41 0 = some (0, 27) := by unfold fldT; rw [u41]; rfl
@[simp] theorem fl41_1 : fldT Tryz.prog 41 1 = some (1, 27) := by unfold fldT; rw [u41]; rfl
@[simp] theorem pl41 : plcT Tryz.prog 41 = some [(0, 1), (1, 1)] := by unfold plcT; rw [u41]; simp only [List.mapM_cons, List.mapM_nil, i27]; rfl
@[simp] theorem ze41 : zeroT Tryz.prog 41 = some [A.d (D.v (Go.Value.int Go.IntKind.u64 0)), A.d (D.v (Go.Value.int Go.IntKind.u64 0))] := by unfold zeroT; rw [i41]; rfl
@[simp] theorem em41 : elemT Tryz.prog 41 = some (2, 16) := by unfold elemT; rw [i41]; rfl
theorem i42 : Tryz.prog.info? 42 = some Tryz.t42 := info_of Tryz.typeInfo42
@[simp] theorem u42 : Tryz.prog.underlying 42 = some (Go.TypeDesc.slice 59) := Tryz.underlying42
@[simp] theorem ag42 : aggB Tryz.prog 42 = some false := by unfold aggB; rw [u42]
@[simp] theorem sz42 : szT Tryz.prog 42 = some 1 := by unfold szT; rw [i42]; rfl
@[simp] theorem el42 : elT Tryz.prog 42 = some 59 := by unfold elT; rw [u42]
@[simp] theorem ze42 : zeroT Tryz.prog 42 = some [A.sx 0 0 []] := by unfold zeroT; rw [i42]; rfl
@[simp] theorem em42 : elemT Tryz.prog 42 = some (1, 24) := by unfold elemT; rw [i42]; rfl
theorem i43 : Tryz.prog.info? 43 = some Tryz.t43 := info_of Tryz.typeInfo43
@[simp] theorem u43 : Tryz.prog.underlying 43 = some (Go.TypeDesc.pointer 63) := Tryz.underlying43
@[simp] theorem ag43 : aggB Tryz.prog 43 = some false := by unfold aggB; rw [u43]
@[simp] theorem sz43 : szT Tryz.prog 43 = some 1 := by unfold szT; rw [i43]; rfl
@[simp] theorem ze43 : zeroT Tryz.prog 43 = some [A.d (D.v (Go.Value.pointer Option.none))] := by unfold zeroT; rw [i43]; rfl
@[simp] theorem em43 : elemT Tryz.prog 43 = some (1, 8) := by unfold elemT; rw [i43]; rfl
theorem i46 : Tryz.prog.info? 46 = some Tryz.t46 := info_of Tryz.typeInfo46
@[simp] theorem u46 : Tryz.prog.underlying 46 = some (Go.TypeDesc.struct #[{ name := "List", type := 27, offset := 0, embedded := Bool.false, tag := "", pkgPath := "", byteOffset := 0 }, { name := "Done", type := 3, offset := 1, embedded := Bool.false, tag := "", pkgPath := "", byteOffset := 8 }, { name := "Tag", type := 9, offset := 2, embedded := Bool.false, tag := "", pkgPath := "", byteOffset := 16 }, { name := "Sort", type := 3, offset := 3, embedded := Bool.false, tag := "", pkgPath := "", byteOffset := 32 }, { name := "Down", type := 4, offset := 4, embedded := Bool.false, tag := "", pkgPath := "", byteOffset := 40 }, { name := "Limit", type := 3, offset := 5, embedded := Bool.false, tag := "", pkgPath := "", byteOffset := 48 }]) := Tryz.underlying46
@[simp] theorem ag46 : aggB Tryz.prog 46 = some true := by unfold aggB; rw [u46]
@[simp] theorem sz46 : szT Tryz.prog 46 = some 6 := by unfold szT; rw [i46]; rfl
@[simp] theorem sh46 : Tryz.prog.stoodInHeld 46 = false := by decide +kernel
@[simp] theorem fl46_0 : fldT Tryz.prog 46 0 = some (0, 27) := by unfold fldT; rw [u46]; rfl
@[simp] theorem fl46_1 : fldT Tryz.prog 46 1 = some (1, 3) := by unfold fldT; rw [u46]; rfl
@[simp] theorem fl46_2 : fldT Tryz.prog 46 2 = some (2, 9) := by unfold fldT; rw [u46]; rfl
@[simp] theorem fl46_3 : fldT Tryz.prog 46 3 = some (3, 3) := by unfold fldT; rw [u46]; rfl
@[simp] theorem fl46_4 : fldT Tryz.prog 46 4 = some (4, 4) := by unfold fldT; rw [u46]; rfl
@[simp] theorem fl46_5 : fldT Tryz.prog 46 5 = some (5, 3) := by unfold fldT; rw [u46]; rfl
@[simp] theorem pl46 : plcT Tryz.prog 46 = some [(0, 1), (1, 1), (2, 1), (3, 1), (4, 1), (5, 1)] := by unfold plcT; rw [u46]; simp only [List.mapM_cons, List.mapM_nil, i27, i3, i4, i9]; rfl
@[simp] theorem ze46 : zeroT Tryz.prog 46 = some [A.d (D.v (Go.Value.int Go.IntKind.u64 0)), A.d (D.v (Go.Value.int Go.IntKind.i64 0)), A.d (D.v (Go.Value.string { data := #[] })), A.d (D.v (Go.Value.int Go.IntKind.i64 0)), A.d (D.v (Go.Value.bool Bool.false)), A.d (D.v (Go.Value.int Go.IntKind.i64 0))] := by unfold zeroT; rw [i46]; rfl
@[simp] theorem em46 : elemT Tryz.prog 46 = some (6, 56) := by unfold elemT; rw [i46]; rfl
theorem i47 : Tryz.prog.info? 47 = some Tryz.t47 := info_of Tryz.typeInfo47
@[simp] theorem u47 : Tryz.prog.underlying 47 = some (Go.TypeDesc.slice 4) := Tryz.underlying47
@[simp] theorem ag47 : aggB Tryz.prog 47 = some false := by unfold aggB; rw [u47]
@[simp] theorem sz47 : szT Tryz.prog 47 = some 1 := by unfold szT; rw [i47]; rfl
@[simp] theorem el47 : elT Tryz.prog 47 = some 4 := by unfold elT; rw [u47]
@[simp] theorem ze47 : zeroT Tryz.prog 47 = some [A.sx 0 0 []] := by unfold zeroT; rw [i47]; rfl
@[simp] theorem em47 : elemT Tryz.prog 47 = some (1, 24) := by unfold elemT; rw [i47]; rfl
theorem i48 : Tryz.prog.info? 48 = some Tryz.t48 := info_of Tryz.typeInfo48
@[simp] theorem u48 : Tryz.prog.underlying 48 = some (Go.TypeDesc.slice 5) := Tryz.underlying48
@[simp] theorem ag48 : aggB Tryz.prog 48 = some false := by unfold aggB; rw [u48]
@[simp] theorem sz48 : szT Tryz.prog 48 = some 1 := by unfold szT; rw [i48]; rfl
@[simp] theorem el48 : elT Tryz.prog 48 = some 5 := by unfold elT; rw [u48]
@[simp] theorem ze48 : zeroT Tryz.prog 48 = some [A.sx 0 0 []] := by unfold zeroT; rw [i48]; rfl
@[simp] theorem em48 : elemT Tryz.prog 48 = some (1, 24) := by unfold elemT; rw [i48]; rfl
theorem i50 : Tryz.prog.info? 50 = some Tryz.t50 := info_of Tryz.typeInfo50
@[simp] theorem u50 : Tryz.prog.underlying 50 = some (Go.TypeDesc.struct #[{ name := "Kind", type := 3, offset := 0, embedded := Bool.false, tag := "", pkgPath := "", byteOffset := 0 }, { name := "Node", type := 3, offset := 1, embedded := Bool.false, tag := "", pkgPath := "", byteOffset := 8 }, { name := "Other", type := 3, offset := 2, embedded := Bool.false, tag := "", pkgPath := "", byteOffset := 16 }, { name := "N", type := 3, offset := 3, embedded := Bool.false, tag := "", pkgPath := "", byteOffset := 24 }, { name := "Mut", type := 30, offset := 4, embedded := Bool.false, tag := "", pkgPath := "", byteOffset := 32 }, { name := "Query", type := 46, offset := 10, embedded := Bool.false, tag := "", pkgPath := "", byteOffset := 88 }, { name := "Keep", type := 47, offset := 16, embedded := Bool.false, tag := "", pkgPath := "", byteOffset := 144 }, { name := "Data", type := 48, offset := 17, embedded := Bool.false, tag := "", pkgPath := "", byteOffset := 168 }]) := Tryz.underlying50
@[simp] theorem ag50 : aggB Tryz.prog 50 = some true := by unfold aggB; rw [u50]
@[simp] theorem sz50 : szT Tryz.prog 50 = some 18 := by unfold szT; rw [i50]; rfl
@[simp] theorem sh50 : Tryz.prog.stoodInHeld 50 = false := by decide +kernel
@[simp] theorem fl50_0 : fldT Tryz.prog 50 0 = some (0, 3) := by unfold fldT; rw [u50]; rfl
@[simp] theorem fl50_1 : fldT Tryz.prog 50 1 = some (1, 3) := by unfold fldT; rw [u50]; rfl
@[simp] theorem fl50_2 : fldT Tryz.prog 50 2 = some (2, 3) := by unfold fldT; rw [u50]; rfl
@[simp] theorem fl50_3 : fldT Tryz.prog 50 3 = some (3, 3) := by unfold fldT; rw [u50]; rfl
@[simp] theorem fl50_4 : fldT Tryz.prog 50 4 = some (4, 30) := by unfold fldT; rw [u50]; rfl
@[simp] theorem fl50_5 : fldT Tryz.prog 50 5 = some (10, 46) := by unfold fldT; rw [u50]; rfl
@[simp] theorem fl50_6 : fldT Tryz.prog 50 6 = some (16, 47) := by unfold fldT; rw [u50]; rfl
@[simp] theorem fl50_7 : fldT Tryz.prog 50 7 = some (17, 48) := by unfold fldT; rw [u50]; rfl
@[simp] theorem pl50 : plcT Tryz.prog 50 = some [(0, 1), (1, 1), (2, 1), (3, 1), (4, 6), (10, 6), (16, 1), (17, 1)] := by unfold plcT; rw [u50]; simp only [List.mapM_cons, List.mapM_nil, i3, i30, i46, i47, i48]; rfl
@[simp] theorem ze50 : zeroT Tryz.prog 50 = some [A.d (D.v (Go.Value.int Go.IntKind.i64 0)), A.d (D.v (Go.Value.int Go.IntKind.i64 0)), A.d (D.v (Go.Value.int Go.IntKind.i64 0)), A.d (D.v (Go.Value.int Go.IntKind.i64 0)), A.d (D.v (Go.Value.int Go.IntKind.i64 0)), A.d (D.v (Go.Value.int Go.IntKind.u64 0)), A.d (D.v (Go.Value.int Go.IntKind.u64 0)), A.d (D.v (Go.Value.string { data := #[] })), A.d (D.v (Go.Value.float Go.FloatKind.f64 0)), A.d (D.v (Go.Value.bool Bool.false)), A.d (D.v (Go.Value.int Go.IntKind.u64 0)), A.d (D.v (Go.Value.int Go.IntKind.i64 0)), A.d (D.v (Go.Value.string { data := #[] })), A.d (D.v (Go.Value.int Go.IntKind.i64 0)), A.d (D.v (Go.Value.bool Bool.false)), A.d (D.v (Go.Value.int Go.IntKind.i64 0)), A.sx 0 0 [], A.sx 0 0 []] := by unfold zeroT; rw [i50]; rfl
@[simp] theorem em50 : elemT Tryz.prog 50 = some (18, 192) := by unfold elemT; rw [i50]; rfl
theorem i52 : Tryz.prog.info? 52 = some Tryz.t52 := info_of Tryz.typeInfo52
@[simp] theorem u52 : Tryz.prog.underlying 52 = some (Go.TypeDesc.int Go.IntKind.i64) := Tryz.underlying52
@[simp] theorem ag52 : aggB Tryz.prog 52 = some false := by unfold aggB; rw [u52]
@[simp] theorem sz52 : szT Tryz.prog 52 = some 1 := by unfold szT; rw [i52]; rfl
@[simp] theorem ze52 : zeroT Tryz.prog 52 = some [A.d (D.v (Go.Value.int Go.IntKind.i64 0))] := by unfold zeroT; rw [i52]; rfl
@[simp] theorem em52 : elemT Tryz.prog 52 = some (1, 8) := by unfold elemT; rw [i52]; rfl
theorem i53 : Tryz.prog.info? 53 = some Tryz.t53 := info_of Tryz.typeInfo53
@[simp] theorem u53 : Tryz.prog.underlying 53 = some (Go.TypeDesc.slice 88) := Tryz.underlying53
@[simp] theorem ag53 : aggB Tryz.prog 53 = some false := by unfold aggB; rw [u53]
@[simp] theorem sz53 : szT Tryz.prog 53 = some 1 := by unfold szT; rw [i53]; rfl
@[simp] theorem el53 : elT Tryz.prog 53 = some 88 := by unfold elT; rw [u53]
@[simp] theorem ze53 : zeroT Tryz.prog 53 = some [A.sx 0 0 []] := by unfold zeroT; rw [i53]; rfl
@[simp] theorem em53 : elemT Tryz.prog 53 = some (1, 24) := by unfold elemT; rw [i53]; rfl
theorem i55 : Tryz.prog.info? 55 = some Tryz.t55 := info_of Tryz.typeInfo55
@[simp] theorem u55 : Tryz.prog.underlying 55 = some (Go.TypeDesc.struct #[{ name := "Count", type := 3, offset := 0, embedded := Bool.false, tag := "", pkgPath := "", byteOffset := 0 }, { name := "Done", type := 3, offset := 1, embedded := Bool.false, tag := "", pkgPath := "", byteOffset := 8 }, { name := "Known", type := 3, offset := 2, embedded := Bool.false, tag := "", pkgPath := "", byteOffset := 16 }, { name := "Sum", type := 28, offset := 3, embedded := Bool.false, tag := "", pkgPath := "", byteOffset := 24 }, { name := "Least", type := 28, offset := 4, embedded := Bool.false, tag := "", pkgPath := "", byteOffset := 32 }, { name := "Most", type := 28, offset := 5, embedded := Bool.false, tag := "", pkgPath := "", byteOffset := 40 }]) := Tryz.underlying55
@[simp] theorem ag55 : aggB Tryz.prog 55 = some true := by unfold aggB; rw [u55]
@[simp] theorem sz55 : szT Tryz.prog 55 = some 6 := by unfold szT; rw [i55]; rfl
@[simp] theorem sh55 : Tryz.prog.stoodInHeld 55 = false := by decide +kernel
@[simp] theorem fl55_0 : fldT Tryz.prog 55 0 = some (0, 3) := by unfold fldT; rw [u55]; rfl
@[simp] theorem fl55_1 : fldT Tryz.prog 55 1 = some (1, 3) := by unfold fldT; rw [u55]; rfl
@[simp] theorem fl55_2 : fldT Tryz.prog 55 2 = some (2, 3) := by unfold fldT; rw [u55]; rfl
@[simp] theorem fl55_3 : fldT Tryz.prog 55 3 = some (3, 28) := by unfold fldT; rw [u55]; rfl
@[simp] theorem fl55_4 : fldT Tryz.prog 55 4 = some (4, 28) := by unfold fldT; rw [u55]; rfl
@[simp] theorem fl55_5 : fldT Tryz.prog 55 5 = some (5, 28) := by unfold fldT; rw [u55]; rfl
@[simp] theorem pl55 : plcT Tryz.prog 55 = some [(0, 1), (1, 1), (2, 1), (3, 1), (4, 1), (5, 1)] := by unfold plcT; rw [u55]; simp only [List.mapM_cons, List.mapM_nil, i28, i3]; rfl
@[simp] theorem ze55 : zeroT Tryz.prog 55 = some [A.d (D.v (Go.Value.int Go.IntKind.i64 0)), A.d (D.v (Go.Value.int Go.IntKind.i64 0)), A.d (D.v (Go.Value.int Go.IntKind.i64 0)), A.d (D.v (Go.Value.float Go.FloatKind.f64 0)), A.d (D.v (Go.Value.float Go.FloatKind.f64 0)), A.d (D.v (Go.Value.float Go.FloatKind.f64 0))] := by unfold zeroT; rw [i55]; rfl
@[simp] theorem em55 : elemT Tryz.prog 55 = some (6, 48) := by unfold elemT; rw [i55]; rfl
theorem i57 : Tryz.prog.info? 57 = some Tryz.t57 := info_of Tryz.typeInfo57
@[simp] theorem u57 : Tryz.prog.underlying 57 = some (Go.TypeDesc.struct #[{ name := "Line", type := 27, offset := 0, embedded := Bool.false, tag := "", pkgPath := "", byteOffset := 0 }, { name := "Ident", type := 27, offset := 1, embedded := Bool.false, tag := "", pkgPath := "", byteOffset := 8 }, { name := "Version", type := 27, offset := 2, embedded := Bool.false, tag := "", pkgPath := "", byteOffset := 16 }, { name := "Pending", type := 3, offset := 3, embedded := Bool.false, tag := "", pkgPath := "", byteOffset := 24 }, { name := "Greeted", type := 4, offset := 4, embedded := Bool.false, tag := "", pkgPath := "", byteOffset := 32 }, { name := "Dropped", type := 3, offset := 5, embedded := Bool.false, tag := "", pkgPath := "", byteOffset := 40 }]) := Tryz.underlying57
@[simp] theorem ag57 : aggB Tryz.prog 57 = some true := by unfold aggB; rw [u57]
@[simp] theorem sz57 : szT Tryz.prog 57 = some 6 := by unfold szT; rw [i57]; rfl
@[simp] theorem sh57 : Tryz.prog.stoodInHeld 57 = false := by decide +kernel
@[simp] theorem fl57_0 : fldT Tryz.prog 57 0 = some (0, 27) := by unfold fldT; rw [u57]; rfl
@[simp] theorem fl57_1 : fldT Tryz.prog 57 1 = some (1, 27) := by unfold fldT; rw [u57]; rfl
@[simp] theorem fl57_2 : fldT Tryz.prog 57 2 = some (2, 27) := by unfold fldT; rw [u57]; rfl
@[simp] theorem fl57_3 : fldT Tryz.prog 57 3 = some (3, 3) := by unfold fldT; rw [u57]; rfl
@[simp] theorem fl57_4 : fldT Tryz.prog 57 4 = some (4, 4) := by unfold fldT; rw [u57]; rfl
@[simp] theorem fl57_5 : fldT Tryz.prog 57 5 = some (5, 3) := by unfold fldT; rw [u57]; rfl
@[simp] theorem pl57 : plcT Tryz.prog 57 = some [(0, 1), (1, 1), (2, 1), (3, 1), (4, 1), (5, 1)] := by unfold plcT; rw [u57]; simp only [List.mapM_cons, List.mapM_nil, i27, i3, i4]; rfl
@[simp] theorem ze57 : zeroT Tryz.prog 57 = some [A.d (D.v (Go.Value.int Go.IntKind.u64 0)), A.d (D.v (Go.Value.int Go.IntKind.u64 0)), A.d (D.v (Go.Value.int Go.IntKind.u64 0)), A.d (D.v (Go.Value.int Go.IntKind.i64 0)), A.d (D.v (Go.Value.bool Bool.false)), A.d (D.v (Go.Value.int Go.IntKind.i64 0))] := by unfold zeroT; rw [i57]; rfl
@[simp] theorem em57 : elemT Tryz.prog 57 = some (6, 48) := by unfold elemT; rw [i57]; rfl
theorem i59 : Tryz.prog.info? 59 = some Tryz.t59 := info_of Tryz.typeInfo59
@[simp] theorem u59 : Tryz.prog.underlying 59 = some (Go.TypeDesc.struct #[{ name := "Node", type := 3, offset := 0, embedded := Bool.false, tag := "", pkgPath := "", byteOffset := 0 }, { name := "Err", type := 52, offset := 1, embedded := Bool.false, tag := "", pkgPath := "", byteOffset := 8 }, { name := "Item", type := 32, offset := 2, embedded := Bool.false, tag := "", pkgPath := "", byteOffset := 16 }, { name := "Tasks", type := 53, offset := 10, embedded := Bool.false, tag := "", pkgPath := "", byteOffset := 88 }, { name := "Sums", type := 55, offset := 11, embedded := Bool.false, tag := "", pkgPath := "", byteOffset := 112 }, { name := "Told", type := 57, offset := 17, embedded := Bool.false, tag := "", pkgPath := "", byteOffset := 160 }]) := Tryz.underlying59
@[simp] theorem ag59 : aggB Tryz.prog 59 = some true := by unfold aggB; rw [u59]
@[simp] theorem sz59 : szT Tryz.prog 59 = some 23 := by unfold szT; rw [i59]; rfl
@[simp] theorem sh59 : Tryz.prog.stoodInHeld 59 = false := by decide +kernel
@[simp] theorem fl59_0 : fldT Tryz.prog 59 0 = some (0, 3) := by unfold fldT; rw [u59]; rfl
@[simp] theorem fl59_1 : fldT Tryz.prog 59 1 = some (1, 52) := by unfold fldT; rw [u59]; rfl
@[simp] theorem fl59_2 : fldT Tryz.prog 59 2 = some (2, 32) := by unfold fldT; rw [u59]; rfl
@[simp] theorem fl59_3 : fldT Tryz.prog 59 3 = some (10, 53) := by unfold fldT; rw [u59]; rfl
@[simp] theorem fl59_4 : fldT Tryz.prog 59 4 = some (11, 55) := by unfold fldT; rw [u59]; rfl
@[simp] theorem fl59_5 : fldT Tryz.prog 59 5 = some (17, 57) := by unfold fldT; rw [u59]; rfl
@[simp] theorem pl59 : plcT Tryz.prog 59 = some [(0, 1), (1, 1), (2, 8), (10, 1), (11, 6), (17, 6)] := by unfold plcT; rw [u59]; simp only [List.mapM_cons, List.mapM_nil, i3, i32, i52, i53, i55, i57]; rfl
@[simp] theorem ze59 : zeroT Tryz.prog 59 = some [A.d (D.v (Go.Value.int Go.IntKind.i64 0)), A.d (D.v (Go.Value.int Go.IntKind.i64 0)), A.d (D.v (Go.Value.int Go.IntKind.u64 0)), A.d (D.v (Go.Value.int Go.IntKind.u64 0)), A.d (D.v (Go.Value.int Go.IntKind.i64 0)), A.d (D.v (Go.Value.int Go.IntKind.u64 0)), A.d (D.v (Go.Value.int Go.IntKind.u64 0)), A.d (D.v (Go.Value.string { data := #[] })), A.d (D.v (Go.Value.float Go.FloatKind.f64 0)), A.d (D.v (Go.Value.bool Bool.false)), A.sx 0 0 [], A.d (D.v (Go.Value.int Go.IntKind.i64 0)), A.d (D.v (Go.Value.int Go.IntKind.i64 0)), A.d (D.v (Go.Value.int Go.IntKind.i64 0)), A.d (D.v (Go.Value.float Go.FloatKind.f64 0)), A.d (D.v (Go.Value.float Go.FloatKind.f64 0)), A.d (D.v (Go.Value.float Go.FloatKind.f64 0)), A.d (D.v (Go.Value.int Go.IntKind.u64 0)), A.d (D.v (Go.Value.int Go.IntKind.u64 0)), A.d (D.v (Go.Value.int Go.IntKind.u64 0)), A.d (D.v (Go.Value.int Go.IntKind.i64 0)), A.d (D.v (Go.Value.bool Bool.false)), A.d (D.v (Go.Value.int Go.IntKind.i64 0))] := by unfold zeroT; rw [i59]; rfl
@[simp] theorem em59 : elemT Tryz.prog 59 = some (23, 208) := by unfold elemT; rw [i59]; rfl
theorem i61 : Tryz.prog.info? 61 = some Tryz.t61 := info_of Tryz.typeInfo61
@[simp] theorem u61 : Tryz.prog.underlying 61 = some (Go.TypeDesc.slice 70) := Tryz.underlying61
@[simp] theorem ag61 : aggB Tryz.prog 61 = some false := by unfold aggB; rw [u61]
@[simp] theorem sz61 : szT Tryz.prog 61 = some 1 := by unfold szT; rw [i61]; rfl
@[simp] theorem el61 : elT Tryz.prog 61 = some 70 := by unfold elT; rw [u61]
@[simp] theorem ze61 : zeroT Tryz.prog 61 = some [A.sx 0 0 []] := by unfold zeroT; rw [i61]; rfl
@[simp] theorem em61 : elemT Tryz.prog 61 = some (1, 24) := by unfold elemT; rw [i61]; rfl
theorem i63 : Tryz.prog.info? 63 = some Tryz.t63 := info_of Tryz.typeInfo63
@[simp] theorem u63 : Tryz.prog.underlying 63 = some (Go.TypeDesc.struct #[{ name := "users", type := 61, offset := 0, embedded := Bool.false, tag := "", pkgPath := "factotum/model", byteOffset := 0 }]) := Tryz.underlying63
@[simp] theorem ag63 : aggB Tryz.prog 63 = some true := by unfold aggB; rw [u63]
@[simp] theorem sz63 : szT Tryz.prog 63 = some 1 := by unfold szT; rw [i63]; rfl
@[simp] theorem sh63 : Tryz.prog.stoodInHeld 63 = false := by decide +kernel
@[simp] theorem fl63_0 : fldT Tryz.prog 63 0 = some (0, 61) := by unfold fldT; rw [u63]; rfl
@[simp] theorem pl63 : plcT Tryz.prog 63 = some [(0, 1)] := by unfold plcT; rw [u63]; simp only [List.mapM_cons, List.mapM_nil, i61]; rfl
@[simp] theorem ze63 : zeroT Tryz.prog 63 = some [A.sx 0 0 []] := by unfold zeroT; rw [i63]; rfl
@[simp] theorem em63 : elemT Tryz.prog 63 = some (1, 24) := by unfold elemT; rw [i63]; rfl
theorem i65 : Tryz.prog.info? 65 = some Tryz.t65 := info_of Tryz.typeInfo65
@[simp] theorem u65 : Tryz.prog.underlying 65 = some (Go.TypeDesc.pointer 70) := Tryz.underlying65
@[simp] theorem ag65 : aggB Tryz.prog 65 = some false := by unfold aggB; rw [u65]
@[simp] theorem sz65 : szT Tryz.prog 65 = some 1 := by unfold szT; rw [i65]; rfl
@[simp] theorem ze65 : zeroT Tryz.prog 65 = some [A.d (D.v (Go.Value.pointer Option.none))] := by unfold zeroT; rw [i65]; rfl
@[simp] theorem em65 : elemT Tryz.prog 65 = some (1, 8) := by unfold elemT; rw [i65]; rfl
theorem i68 : Tryz.prog.info? 68 = some Tryz.t68 := info_of Tryz.typeInfo68
@[simp] theorem u68 : Tryz.prog.underlying 68 = some (Go.TypeDesc.func #[28, 28] #[4] Bool.false) := Tryz.underlying68
@[simp] theorem ag68 : aggB Tryz.prog 68 = some false := by unfold aggB; rw [u68]
@[simp] theorem sz68 : szT Tryz.prog 68 = some 1 := by unfold szT; rw [i68]; rfl
@[simp] theorem ze68 : zeroT Tryz.prog 68 = some [A.d (D.v (Go.Value.nilFunc))] := by unfold zeroT; rw [i68]; rfl
@[simp] theorem em68 : elemT Tryz.prog 68 = some (1, 8) := by unfold elemT; rw [i68]; rfl
theorem i70 : Tryz.prog.info? 70 = some Tryz.t70 := info_of Tryz.typeInfo70
@[simp] theorem u70 : Tryz.prog.underlying 70 = some (Go.TypeDesc.struct #[{ name := "own", type := 22, offset := 0, embedded := Bool.false, tag := "", pkgPath := "factotum/model", byteOffset := 0 }, { name := "told", type := 57, offset := 1, embedded := Bool.false, tag := "", pkgPath := "factotum/model", byteOffset := 24 }]) := Tryz.underlying70
@[simp] theorem ag70 : aggB Tryz.prog 70 = some true := by unfold aggB; rw [u70]
@[simp] theorem sz70 : szT Tryz.prog 70 = some 7 := by unfold szT; rw [i70]; rfl
@[simp] theorem sh70 : Tryz.prog.stoodInHeld 70 = false := by decide +kernel
@[simp] theorem fl70_0 : fldT Tryz.prog 70 0 = some (0, 22) := by unfold fldT; rw [u70]; rfl
@[simp] theorem fl70_1 : fldT Tryz.prog 70 1 = some (1, 57) := by unfold fldT; rw [u70]; rfl
@[simp] theorem pl70 : plcT Tryz.prog 70 = some [(0, 1), (1, 6)] := by unfold plcT; rw [u70]; simp only [List.mapM_cons, List.mapM_nil, i22, i57]; rfl
@[simp] theorem ze70 : zeroT Tryz.prog 70 = some [A.sx 0 0 [], A.d (D.v (Go.Value.int Go.IntKind.u64 0)), A.d (D.v (Go.Value.int Go.IntKind.u64 0)), A.d (D.v (Go.Value.int Go.IntKind.u64 0)), A.d (D.v (Go.Value.int Go.IntKind.i64 0)), A.d (D.v (Go.Value.bool Bool.false)), A.d (D.v (Go.Value.int Go.IntKind.i64 0))] := by unfold zeroT; rw [i70]; rfl
@[simp] theorem em70 : elemT Tryz.prog 70 = some (7, 72) := by unfold elemT; rw [i70]; rfl
theorem i73 : Tryz.prog.info? 73 = some Tryz.t73 := info_of Tryz.typeInfo73
@[simp] theorem u73 : Tryz.prog.underlying 73 = some (Go.TypeDesc.func #[32] #[4] Bool.false) := Tryz.underlying73
@[simp] theorem ag73 : aggB Tryz.prog 73 = some false := by unfold aggB; rw [u73]
@[simp] theorem sz73 : szT Tryz.prog 73 = some 1 := by unfold szT; rw [i73]; rfl
@[simp] theorem ze73 : zeroT Tryz.prog 73 = some [A.d (D.v (Go.Value.nilFunc))] := by unfold zeroT; rw [i73]; rfl
@[simp] theorem em73 : elemT Tryz.prog 73 = some (1, 8) := by unfold elemT; rw [i73]; rfl
theorem i74 : Tryz.prog.info? 74 = some Tryz.t74 := info_of Tryz.typeInfo74
@[simp] theorem u74 : Tryz.prog.underlying 74 = some (Go.TypeDesc.slice 116) := Tryz.underlying74
@[simp] theorem ag74 : aggB Tryz.prog 74 = some false := by unfold aggB; rw [u74]
@[simp] theorem sz74 : szT Tryz.prog 74 = some 1 := by unfold szT; rw [i74]; rfl
@[simp] theorem el74 : elT Tryz.prog 74 = some 116 := by unfold elT; rw [u74]
@[simp] theorem ze74 : zeroT Tryz.prog 74 = some [A.sx 0 0 []] := by unfold zeroT; rw [i74]; rfl
@[simp] theorem em74 : elemT Tryz.prog 74 = some (1, 24) := by unfold elemT; rw [i74]; rfl
theorem i76 : Tryz.prog.info? 76 = some Tryz.t76 := info_of Tryz.typeInfo76
@[simp] theorem u76 : Tryz.prog.underlying 76 = some (Go.TypeDesc.struct #[{ name := "Lists", type := 74, offset := 0, embedded := Bool.false, tag := "", pkgPath := "", byteOffset := 0 }, { name := "Tasks", type := 53, offset := 1, embedded := Bool.false, tag := "", pkgPath := "", byteOffset := 24 }]) := Tryz.underlying76
@[simp] theorem ag76 : aggB Tryz.prog 76 = some true := by unfold aggB; rw [u76]
@[simp] theorem sz76 : szT Tryz.prog 76 = some 2 := by unfold szT; rw [i76]; rfl
@[simp] theorem sh76 : Tryz.prog.stoodInHeld 76 = false := by decide +kernel
@[simp] theorem fl76_0 : fldT Tryz.prog 76 0 = some (0, 74) := by unfold fldT; rw [u76]; rfl
@[simp] theorem fl76_1 : fldT Tryz.prog 76 1 = some (1, 53) := by unfold fldT; rw [u76]; rfl
@[simp] theorem pl76 : plcT Tryz.prog 76 = some [(0, 1), (1, 1)] := by unfold plcT; rw [u76]; simp only [List.mapM_cons, List.mapM_nil, i53, i74]; rfl
@[simp] theorem ze76 : zeroT Tryz.prog 76 = some [A.sx 0 0 [], A.sx 0 0 []] := by unfold zeroT; rw [i76]; rfl
@[simp] theorem em76 : elemT Tryz.prog 76 = some (2, 48) := by unfold elemT; rw [i76]; rfl
theorem i77 : Tryz.prog.info? 77 = some Tryz.t77 := info_of Tryz.typeInfo77
@[simp] theorem u77 : Tryz.prog.underlying 77 = some (Go.TypeDesc.slice 52) := Tryz.underlying77
@[simp] theorem ag77 : aggB Tryz.prog 77 = some false := by unfold aggB; rw [u77]
@[simp] theorem sz77 : szT Tryz.prog 77 = some 1 := by unfold szT; rw [i77]; rfl
@[simp] theorem el77 : elT Tryz.prog 77 = some 52 := by unfold elT; rw [u77]
@[simp] theorem ze77 : zeroT Tryz.prog 77 = some [A.sx 0 0 []] := by unfold zeroT; rw [i77]; rfl
@[simp] theorem em77 : elemT Tryz.prog 77 = some (1, 24) := by unfold elemT; rw [i77]; rfl
theorem i86 : Tryz.prog.info? 86 = some Tryz.t86 := info_of Tryz.typeInfo86
@[simp] theorem u86 : Tryz.prog.underlying 86 = some (Go.TypeDesc.slice 9) := Tryz.underlying86
@[simp] theorem ag86 : aggB Tryz.prog 86 = some false := by unfold aggB; rw [u86]
@[simp] theorem sz86 : szT Tryz.prog 86 = some 1 := by unfold szT; rw [i86]; rfl
@[simp] theorem el86 : elT Tryz.prog 86 = some 9 := by unfold elT; rw [u86]
@[simp] theorem ze86 : zeroT Tryz.prog 86 = some [A.sx 0 0 []] := by unfold zeroT; rw [i86]; rfl
@[simp] theorem em86 : elemT Tryz.prog 86 = some (1, 24) := by unfold elemT; rw [i86]; rfl
theorem i88 : Tryz.prog.info? 88 = some Tryz.t88 := info_of Tryz.typeInfo88
@[simp] theorem u88 : Tryz.prog.underlying 88 = some (Go.TypeDesc.struct #[{ name := "Id", type := 27, offset := 0, embedded := Bool.false, tag := "", pkgPath := "", byteOffset := 0 }, { name := "List", type := 27, offset := 1, embedded := Bool.false, tag := "", pkgPath := "", byteOffset := 8 }, { name := "Title", type := 9, offset := 2, embedded := Bool.false, tag := "", pkgPath := "", byteOffset := 16 }, { name := "Done", type := 4, offset := 3, embedded := Bool.false, tag := "", pkgPath := "", byteOffset := 32 }, { name := "Rank", type := 28, offset := 4, embedded := Bool.false, tag := "", pkgPath := "", byteOffset := 40 }, { name := "Est", type := 28, offset := 5, embedded := Bool.false, tag := "", pkgPath := "", byteOffset := 48 }, { name := "Tags", type := 86, offset := 6, embedded := Bool.false, tag := "", pkgPath := "", byteOffset := 56 }]) := Tryz.underlying88
@[simp] theorem ag88 : aggB Tryz.prog 88 = some true := by unfold aggB; rw [u88]
@[simp] theorem sz88 : szT Tryz.prog 88 = some 7 := by unfold szT; rw [i88]; rfl
@[simp] theorem sh88 : Tryz.prog.stoodInHeld 88 = false := by decide +kernel
@[simp] theorem fl88_0 : fldT Tryz.prog 88 0 = some (0, 27) := by unfold fldT; rw [u88]; rfl
@[simp] theorem fl88_1 : fldT Tryz.prog 88 1 = some (1, 27) := by unfold fldT; rw [u88]; rfl
@[simp] theorem fl88_2 : fldT Tryz.prog 88 2 = some (2, 9) := by unfold fldT; rw [u88]; rfl
@[simp] theorem fl88_3 : fldT Tryz.prog 88 3 = some (3, 4) := by unfold fldT; rw [u88]; rfl
@[simp] theorem fl88_4 : fldT Tryz.prog 88 4 = some (4, 28) := by unfold fldT; rw [u88]; rfl
@[simp] theorem fl88_5 : fldT Tryz.prog 88 5 = some (5, 28) := by unfold fldT; rw [u88]; rfl
@[simp] theorem fl88_6 : fldT Tryz.prog 88 6 = some (6, 86) := by unfold fldT; rw [u88]; rfl
@[simp] theorem pl88 : plcT Tryz.prog 88 = some [(0, 1), (1, 1), (2, 1), (3, 1), (4, 1), (5, 1), (6, 1)] := by unfold plcT; rw [u88]; simp only [List.mapM_cons, List.mapM_nil, i27, i28, i4, i86, i9]; rfl
@[simp] theorem ze88 : zeroT Tryz.prog 88 = some [A.d (D.v (Go.Value.int Go.IntKind.u64 0)), A.d (D.v (Go.Value.int Go.IntKind.u64 0)), A.d (D.v (Go.Value.string { data := #[] })), A.d (D.v (Go.Value.bool Bool.false)), A.d (D.v (Go.Value.float Go.FloatKind.f64 0)), A.d (D.v (Go.Value.float Go.FloatKind.f64 0)), A.sx 0 0 []] := by unfold zeroT; rw [i88]; rfl
@[simp] theorem em88 : elemT Tryz.prog 88 = some (7, 80) := by unfold elemT; rw [i88]; rfl
theorem i89 : Tryz.prog.info? 89 = some Tryz.t89 := info_of Tryz.typeInfo89
@[simp] theorem u89 : Tryz.prog.underlying 89 = some (Go.TypeDesc.func #[88, 88] #[4] Bool.false) := Tryz.underlying89
@[simp] theorem ag89 : aggB Tryz.prog 89 = some false := by unfold aggB; rw [u89]
@[simp] theorem sz89 : szT Tryz.prog 89 = some 1 := by unfold szT; rw [i89]; rfl
@[simp] theorem ze89 : zeroT Tryz.prog 89 = some [A.d (D.v (Go.Value.nilFunc))] := by unfold zeroT; rw [i89]; rfl
@[simp] theorem em89 : elemT Tryz.prog 89 = some (1, 8) := by unfold elemT; rw [i89]; rfl
theorem i97 : Tryz.prog.info? 97 = some Tryz.t97 := info_of Tryz.typeInfo97
@[simp] theorem u97 : Tryz.prog.underlying 97 = some (Go.TypeDesc.slice 22) := Tryz.underlying97
@[simp] theorem ag97 : aggB Tryz.prog 97 = some false := by unfold aggB; rw [u97]
@[simp] theorem sz97 : szT Tryz.prog 97 = some 1 := by unfold szT; rw [i97]; rfl
@[simp] theorem el97 : elT Tryz.prog 97 = some 22 := by unfold elT; rw [u97]
@[simp] theorem ze97 : zeroT Tryz.prog 97 = some [A.sx 0 0 []] := by unfold zeroT; rw [i97]; rfl
@[simp] theorem em97 : elemT Tryz.prog 97 = some (1, 24) := by unfold elemT; rw [i97]; rfl
theorem i104 : Tryz.prog.info? 104 = some Tryz.t104 := info_of Tryz.typeInfo104
@[simp] theorem u104 : Tryz.prog.underlying 104 = some (Go.TypeDesc.func #[88, 88] #[3] Bool.false) := Tryz.underlying104
@[simp] theorem ag104 : aggB Tryz.prog 104 = some false := by unfold aggB; rw [u104]
@[simp] theorem sz104 : szT Tryz.prog 104 = some 1 := by unfold szT; rw [i104]; rfl
@[simp] theorem ze104 : zeroT Tryz.prog 104 = some [A.d (D.v (Go.Value.nilFunc))] := by unfold zeroT; rw [i104]; rfl
@[simp] theorem em104 : elemT Tryz.prog 104 = some (1, 8) := by unfold elemT; rw [i104]; rfl
theorem i106 : Tryz.prog.info? 106 = some Tryz.t106 := info_of Tryz.typeInfo106
@[simp] theorem u106 : Tryz.prog.underlying 106 = some (Go.TypeDesc.slice 28) := Tryz.underlying106
@[simp] theorem ag106 : aggB Tryz.prog 106 = some false := by unfold aggB; rw [u106]
@[simp] theorem sz106 : szT Tryz.prog 106 = some 1 := by unfold szT; rw [i106]; rfl
@[simp] theorem el106 : elT Tryz.prog 106 = some 28 := by unfold elT; rw [u106]
@[simp] theorem ze106 : zeroT Tryz.prog 106 = some [A.sx 0 0 []] := by unfold zeroT; rw [i106]; rfl
@[simp] theorem em106 : elemT Tryz.prog 106 = some (1, 24) := by unfold elemT; rw [i106]; rfl
theorem i110 : Tryz.prog.info? 110 = some Tryz.t110 := info_of Tryz.typeInfo110
@[simp] theorem u110 : Tryz.prog.underlying 110 = some (Go.TypeDesc.int Go.IntKind.u64) := Tryz.underlying110
@[simp] theorem ag110 : aggB Tryz.prog 110 = some false := by unfold aggB; rw [u110]
@[simp] theorem sz110 : szT Tryz.prog 110 = some 1 := by unfold szT; rw [i110]; rfl
@[simp] theorem ze110 : zeroT Tryz.prog 110 = some [A.d (D.v (Go.Value.int Go.IntKind.u64 0))] := by unfold zeroT; rw [i110]; rfl
@[simp] theorem em110 : elemT Tryz.prog 110 = some (1, 8) := by unfold elemT; rw [i110]; rfl
theorem i116 : Tryz.prog.info? 116 = some Tryz.t116 := info_of Tryz.typeInfo116
@[simp] theorem u116 : Tryz.prog.underlying 116 = some (Go.TypeDesc.struct #[{ name := "Id", type := 27, offset := 0, embedded := Bool.false, tag := "", pkgPath := "", byteOffset := 0 }, { name := "Name", type := 9, offset := 1, embedded := Bool.false, tag := "", pkgPath := "", byteOffset := 8 }]) := Tryz.underlying116
@[simp] theorem ag116 : aggB Tryz.prog 116 = some true := by unfold aggB; rw [u116]
@[simp] theorem sz116 : szT Tryz.prog 116 = some 2 := by unfold szT; rw [i116]; rfl
@[simp] theorem sh116 : Tryz.prog.stoodInHeld 116 = false := by decide +kernel
@[simp] theorem fl116_0 : fldT Tryz.prog 116 0 = some (0, 27) := by unfold fldT; rw [u116]; rfl
@[simp] theorem fl116_1 : fldT Tryz.prog 116 1 = some (1, 9) := by unfold fldT; rw [u116]; rfl
@[simp] theorem pl116 : plcT Tryz.prog 116 = some [(0, 1), (1, 1)] := by unfold plcT; rw [u116]; simp only [List.mapM_cons, List.mapM_nil, i27, i9]; rfl
@[simp] theorem ze116 : zeroT Tryz.prog 116 = some [A.d (D.v (Go.Value.int Go.IntKind.u64 0)), A.d (D.v (Go.Value.string { data := #[] }))] := by unfold zeroT; rw [i116]; rfl
@[simp] theorem em116 : elemT Tryz.prog 116 = some (2, 24) := by unfold elemT; rw [i116]; rfl
theorem i126 : Tryz.prog.info? 126 = some Tryz.t126 := info_of Tryz.typeInfo126
@[simp] theorem u126 : Tryz.prog.underlying 126 = some (Go.TypeDesc.map 27 4) := Tryz.underlying126
@[simp] theorem ag126 : aggB Tryz.prog 126 = some false := by unfold aggB; rw [u126]
@[simp] theorem sz126 : szT Tryz.prog 126 = some 1 := by unfold szT; rw [i126]; rfl
@[simp] theorem ze126 : zeroT Tryz.prog 126 = some [A.d (D.v (Go.Value.map Option.none))] := by unfold zeroT; rw [i126]; rfl
@[simp] theorem em126 : elemT Tryz.prog 126 = some (1, 8) := by unfold elemT; rw [i126]; rfl
theorem i129 : Tryz.prog.info? 129 = some Tryz.t129 := info_of Tryz.typeInfo129
@[simp] theorem u129 : Tryz.prog.underlying 129 = some (Go.TypeDesc.func #[116, 116] #[3] Bool.false) := Tryz.underlying129
@[simp] theorem ag129 : aggB Tryz.prog 129 = some false := by unfold aggB; rw [u129]
@[simp] theorem sz129 : szT Tryz.prog 129 = some 1 := by unfold szT; rw [i129]; rfl
@[simp] theorem ze129 : zeroT Tryz.prog 129 = some [A.d (D.v (Go.Value.nilFunc))] := by unfold zeroT; rw [i129]; rfl
@[simp] theorem em129 : elemT Tryz.prog 129 = some (1, 8) := by unfold elemT; rw [i129]; rfl
theorem i134 : Tryz.prog.info? 134 = some Tryz.t134 := info_of Tryz.typeInfo134
@[simp] theorem u134 : Tryz.prog.underlying 134 = some (Go.TypeDesc.func #[116] #[4] Bool.false) := Tryz.underlying134
@[simp] theorem ag134 : aggB Tryz.prog 134 = some false := by unfold aggB; rw [u134]
@[simp] theorem sz134 : szT Tryz.prog 134 = some 1 := by unfold szT; rw [i134]; rfl
@[simp] theorem ze134 : zeroT Tryz.prog 134 = some [A.d (D.v (Go.Value.nilFunc))] := by unfold zeroT; rw [i134]; rfl
@[simp] theorem em134 : elemT Tryz.prog 134 = some (1, 8) := by unfold elemT; rw [i134]; rfl
theorem i139 : Tryz.prog.info? 139 = some Tryz.t139 := info_of Tryz.typeInfo139
@[simp] theorem u139 : Tryz.prog.underlying 139 = some (Go.TypeDesc.slice 3) := Tryz.underlying139
@[simp] theorem ag139 : aggB Tryz.prog 139 = some false := by unfold aggB; rw [u139]
@[simp] theorem sz139 : szT Tryz.prog 139 = some 1 := by unfold szT; rw [i139]; rfl
@[simp] theorem el139 : elT Tryz.prog 139 = some 3 := by unfold elT; rw [u139]
@[simp] theorem ze139 : zeroT Tryz.prog 139 = some [A.sx 0 0 []] := by unfold zeroT; rw [i139]; rfl
@[simp] theorem em139 : elemT Tryz.prog 139 = some (1, 24) := by unfold elemT; rw [i139]; rfl
theorem i146 : Tryz.prog.info? 146 = some Tryz.t146 := info_of Tryz.typeInfo146
@[simp] theorem u146 : Tryz.prog.underlying 146 = some (Go.TypeDesc.func #[5] #[4] Bool.false) := Tryz.underlying146
@[simp] theorem ag146 : aggB Tryz.prog 146 = some false := by unfold aggB; rw [u146]
@[simp] theorem sz146 : szT Tryz.prog 146 = some 1 := by unfold szT; rw [i146]; rfl
@[simp] theorem ze146 : zeroT Tryz.prog 146 = some [A.d (D.v (Go.Value.nilFunc))] := by unfold zeroT; rw [i146]; rfl
@[simp] theorem em146 : elemT Tryz.prog 146 = some (1, 8) := by unfold elemT; rw [i146]; rfl
theorem i149 : Tryz.prog.info? 149 = some Tryz.t149 := info_of Tryz.typeInfo149
@[simp] theorem u149 : Tryz.prog.underlying 149 = some (Go.TypeDesc.pointer 151) := Tryz.underlying149
@[simp] theorem ag149 : aggB Tryz.prog 149 = some false := by unfold aggB; rw [u149]
@[simp] theorem sz149 : szT Tryz.prog 149 = some 1 := by unfold szT; rw [i149]; rfl
@[simp] theorem ze149 : zeroT Tryz.prog 149 = some [A.d (D.v (Go.Value.pointer Option.none))] := by unfold zeroT; rw [i149]; rfl
@[simp] theorem em149 : elemT Tryz.prog 149 = some (1, 8) := by unfold elemT; rw [i149]; rfl
theorem i151 : Tryz.prog.info? 151 = some Tryz.t151 := info_of Tryz.typeInfo151
@[simp] theorem u151 : Tryz.prog.underlying 151 = some (Go.TypeDesc.struct #[{ name := "s", type := 76, offset := 0, embedded := Bool.false, tag := "", pkgPath := "factotum/mutate", byteOffset := 0 }]) := Tryz.underlying151
@[simp] theorem ag151 : aggB Tryz.prog 151 = some true := by unfold aggB; rw [u151]
@[simp] theorem sz151 : szT Tryz.prog 151 = some 2 := by unfold szT; rw [i151]; rfl
@[simp] theorem sh151 : Tryz.prog.stoodInHeld 151 = false := by decide +kernel
@[simp] theorem fl151_0 : fldT Tryz.prog 151 0 = some (0, 76) := by unfold fldT; rw [u151]; rfl
@[simp] theorem pl151 : plcT Tryz.prog 151 = some [(0, 2)] := by unfold plcT; rw [u151]; simp only [List.mapM_cons, List.mapM_nil, i76]; rfl
@[simp] theorem ze151 : zeroT Tryz.prog 151 = some [A.sx 0 0 [], A.sx 0 0 []] := by unfold zeroT; rw [i151]; rfl
@[simp] theorem em151 : elemT Tryz.prog 151 = some (2, 48) := by unfold elemT; rw [i151]; rfl
theorem i156 : Tryz.prog.info? 156 = some Tryz.t156 := info_of Tryz.typeInfo156
@[simp] theorem u156 : Tryz.prog.underlying 156 = some (Go.TypeDesc.int Go.IntKind.i64) := Tryz.underlying156
@[simp] theorem ag156 : aggB Tryz.prog 156 = some false := by unfold aggB; rw [u156]
@[simp] theorem sz156 : szT Tryz.prog 156 = some 1 := by unfold szT; rw [i156]; rfl
@[simp] theorem ze156 : zeroT Tryz.prog 156 = some [A.d (D.v (Go.Value.int Go.IntKind.i64 0))] := by unfold zeroT; rw [i156]; rfl
@[simp] theorem em156 : elemT Tryz.prog 156 = some (1, 8) := by unfold elemT; rw [i156]; rfl
theorem i164 : Tryz.prog.info? 164 = some Tryz.t164 := info_of Tryz.typeInfo164
@[simp] theorem u164 : Tryz.prog.underlying 164 = some (Go.TypeDesc.int Go.IntKind.u32) := Tryz.underlying164
@[simp] theorem ag164 : aggB Tryz.prog 164 = some false := by unfold aggB; rw [u164]
@[simp] theorem sz164 : szT Tryz.prog 164 = some 1 := by unfold szT; rw [i164]; rfl
@[simp] theorem ze164 : zeroT Tryz.prog 164 = some [A.d (D.v (Go.Value.int Go.IntKind.u32 0))] := by unfold zeroT; rw [i164]; rfl
@[simp] theorem em164 : elemT Tryz.prog 164 = some (1, 4) := by unfold elemT; rw [i164]; rfl
theorem i172 : Tryz.prog.info? 172 = some Tryz.t172 := info_of Tryz.typeInfo172
@[simp] theorem u172 : Tryz.prog.underlying 172 = some (Go.TypeDesc.pointer 52) := Tryz.underlying172
@[simp] theorem ag172 : aggB Tryz.prog 172 = some false := by unfold aggB; rw [u172]
@[simp] theorem sz172 : szT Tryz.prog 172 = some 1 := by unfold szT; rw [i172]; rfl
@[simp] theorem ze172 : zeroT Tryz.prog 172 = some [A.d (D.v (Go.Value.pointer Option.none))] := by unfold zeroT; rw [i172]; rfl
@[simp] theorem em172 : elemT Tryz.prog 172 = some (1, 8) := by unfold elemT; rw [i172]; rfl
theorem i180 : Tryz.prog.info? 180 = some Tryz.t180 := info_of Tryz.typeInfo180
@[simp] theorem u180 : Tryz.prog.underlying 180 = some (Go.TypeDesc.int Go.IntKind.u64) := Tryz.underlying180
@[simp] theorem ag180 : aggB Tryz.prog 180 = some false := by unfold aggB; rw [u180]
@[simp] theorem sz180 : szT Tryz.prog 180 = some 1 := by unfold szT; rw [i180]; rfl
@[simp] theorem ze180 : zeroT Tryz.prog 180 = some [A.d (D.v (Go.Value.int Go.IntKind.u64 0))] := by unfold zeroT; rw [i180]; rfl
@[simp] theorem em180 : elemT Tryz.prog 180 = some (1, 8) := by unfold elemT; rw [i180]; rfl
theorem i184 : Tryz.prog.info? 184 = some Tryz.t184 := info_of Tryz.typeInfo184
@[simp] theorem u184 : Tryz.prog.underlying 184 = some (Go.TypeDesc.pointer 3) := Tryz.underlying184
@[simp] theorem ag184 : aggB Tryz.prog 184 = some false := by unfold aggB; rw [u184]
@[simp] theorem sz184 : szT Tryz.prog 184 = some 1 := by unfold szT; rw [i184]; rfl
@[simp] theorem ze184 : zeroT Tryz.prog 184 = some [A.d (D.v (Go.Value.pointer Option.none))] := by unfold zeroT; rw [i184]; rfl
@[simp] theorem em184 : elemT Tryz.prog 184 = some (1, 8) := by unfold elemT; rw [i184]; rfl
theorem i189 : Tryz.prog.info? 189 = some Tryz.t189 := info_of Tryz.typeInfo189
@[simp] theorem u189 : Tryz.prog.underlying 189 = some (Go.TypeDesc.struct #[{ name := "e", type := 52, offset := 0, embedded := Bool.false, tag := "", pkgPath := "factotum/mutate", byteOffset := 0 }]) := Tryz.underlying189
@[simp] theorem ag189 : aggB Tryz.prog 189 = some true := by unfold aggB; rw [u189]
@[simp] theorem sz189 : szT Tryz.prog 189 = some 1 := by unfold szT; rw [i189]; rfl
@[simp] theorem sh189 : Tryz.prog.stoodInHeld 189 = false := by decide +kernel
@[simp] theorem fl189_0 : fldT Tryz.prog 189 0 = some (0, 52) := by unfold fldT; rw [u189]; rfl
@[simp] theorem pl189 : plcT Tryz.prog 189 = some [(0, 1)] := by unfold plcT; rw [u189]; simp only [List.mapM_cons, List.mapM_nil, i52]; rfl
@[simp] theorem ze189 : zeroT Tryz.prog 189 = some [A.d (D.v (Go.Value.int Go.IntKind.i64 0))] := by unfold zeroT; rw [i189]; rfl
@[simp] theorem em189 : elemT Tryz.prog 189 = some (1, 8) := by unfold elemT; rw [i189]; rfl
theorem i191 : Tryz.prog.info? 191 = some Tryz.t191 := info_of Tryz.typeInfo191
@[simp] theorem u191 : Tryz.prog.underlying 191 = some (Go.TypeDesc.struct #[{ name := "id", type := 4, offset := 0, embedded := Bool.false, tag := "", pkgPath := "factotum/mutate", byteOffset := 0 }, { name := "list", type := 4, offset := 1, embedded := Bool.false, tag := "", pkgPath := "factotum/mutate", byteOffset := 1 }, { name := "text", type := 4, offset := 2, embedded := Bool.false, tag := "", pkgPath := "factotum/mutate", byteOffset := 2 }, { name := "f", type := 4, offset := 3, embedded := Bool.false, tag := "", pkgPath := "factotum/mutate", byteOffset := 3 }, { name := "flag", type := 4, offset := 4, embedded := Bool.false, tag := "", pkgPath := "factotum/mutate", byteOffset := 4 }]) := Tryz.underlying191
@[simp] theorem ag191 : aggB Tryz.prog 191 = some true := by unfold aggB; rw [u191]
@[simp] theorem sz191 : szT Tryz.prog 191 = some 5 := by unfold szT; rw [i191]; rfl
@[simp] theorem sh191 : Tryz.prog.stoodInHeld 191 = false := by decide +kernel
@[simp] theorem fl191_0 : fldT Tryz.prog 191 0 = some (0, 4) := by unfold fldT; rw [u191]; rfl
@[simp] theorem fl191_1 : fldT Tryz.prog 191 1 = some (1, 4) := by unfold fldT; rw [u191]; rfl
@[simp] theorem fl191_2 : fldT Tryz.prog 191 2 = some (2, 4) := by unfold fldT; rw [u191]; rfl
@[simp] theorem fl191_3 : fldT Tryz.prog 191 3 = some (3, 4) := by unfold fldT; rw [u191]; rfl
@[simp] theorem fl191_4 : fldT Tryz.prog 191 4 = some (4, 4) := by unfold fldT; rw [u191]; rfl
@[simp] theorem pl191 : plcT Tryz.prog 191 = some [(0, 1), (1, 1), (2, 1), (3, 1), (4, 1)] := by unfold plcT; rw [u191]; simp only [List.mapM_cons, List.mapM_nil, i4]; rfl
@[simp] theorem ze191 : zeroT Tryz.prog 191 = some [A.d (D.v (Go.Value.bool Bool.false)), A.d (D.v (Go.Value.bool Bool.false)), A.d (D.v (Go.Value.bool Bool.false)), A.d (D.v (Go.Value.bool Bool.false)), A.d (D.v (Go.Value.bool Bool.false))] := by unfold zeroT; rw [i191]; rfl
@[simp] theorem em191 : elemT Tryz.prog 191 = some (5, 5) := by unfold elemT; rw [i191]; rfl
theorem i199 : Tryz.prog.info? 199 = some Tryz.t199 := info_of Tryz.typeInfo199
@[simp] theorem u199 : Tryz.prog.underlying 199 = some (Go.TypeDesc.func #[88] #[4] Bool.false) := Tryz.underlying199
@[simp] theorem ag199 : aggB Tryz.prog 199 = some false := by unfold aggB; rw [u199]
@[simp] theorem sz199 : szT Tryz.prog 199 = some 1 := by unfold szT; rw [i199]; rfl
@[simp] theorem ze199 : zeroT Tryz.prog 199 = some [A.d (D.v (Go.Value.nilFunc))] := by unfold zeroT; rw [i199]; rfl
@[simp] theorem em199 : elemT Tryz.prog 199 = some (1, 8) := by unfold elemT; rw [i199]; rfl

end Go.Proofs.YtamefliipjhpoaaGreat.Ab
