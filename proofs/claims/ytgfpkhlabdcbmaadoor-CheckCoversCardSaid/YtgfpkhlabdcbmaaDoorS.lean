import Derived.Shelf.Unicode.DecodeAny
import Derived.Ground.SlgnProg
import Derived.Shelf.SlicesE.Clone
import Derived.Test.YtgfpkhlabdcbmaaDoorProg
namespace Go.Proofs
open Go.Shelf
def Tryd.lays197_ren:Go.Shelf.Ren:=⟨fun | 197=>86 | 260=>94 | n=>n,fun | 9=>9 | 21=>21 | 3=>3 | 4=>4 | 5=>5 | 105=>120 | 119=>132 | 0=>0 | 46=>94 | 139=>135 | 138=>134 | n=>n,fun | 3=>0 | 4=>1 | n=>n⟩
theorem Tryd.lays197:Go.Proofs.Lays.n197 Tryd.prog Tryd.lays197_ren:={
 mixed:=by kernel_rfl
 f197:=Tryd.func86.trans (congrArg some (by kernel_rfl))
 f260:=Tryd.func94.trans (congrArg some (by kernel_rfl))
 t0:=Tryd.underlying0
 a0:=Tryd.isAgg0
 z0:=Tryd.sizeOf0
 v0:=Tryd.zeroValue0
 t3:=Tryd.underlying3
 a3:=Tryd.isAgg3
 z3:=Tryd.sizeOf3
 v3:=Tryd.zeroValue3
 t4:=Tryd.underlying4
 a4:=Tryd.isAgg4
 z4:=Tryd.sizeOf4
 v4:=Tryd.zeroValue4
 t5:=Tryd.underlying5
 a5:=Tryd.isAgg5
 z5:=Tryd.sizeOf5
 v5:=Tryd.zeroValue5
 t9:=Tryd.underlying9
 a9:=Tryd.isAgg9
 z9:=Tryd.sizeOf9
 v9:=Tryd.zeroValue9
 t21:=Tryd.underlying21
 a21:=Tryd.isAgg21
 z21:=Tryd.sizeOf21
 v21:=Tryd.zeroValue21
 t46:=Tryd.underlying94
 a46:=Tryd.isAgg94
 z46:=Tryd.sizeOf94
 v46:=Tryd.zeroValue94
 t105:=Tryd.underlying120
 a105:=Tryd.isAgg120
 z105:=Tryd.sizeOf120
 v105:=Tryd.zeroValue120
 t119:=Tryd.underlying132
 a119:=Tryd.isAgg132
 z119:=Tryd.sizeOf132
 t138:=Tryd.underlying134
 a138:=Tryd.isAgg134
 z138:=Tryd.sizeOf134
 v138:=Tryd.zeroValue134
 t139:=Tryd.underlying135
 a139:=Tryd.isAgg135
 z139:=Tryd.sizeOf135
 v139:=Tryd.zeroValue135
 g3:=by kernel_rfl
 g4:=by kernel_rfl }
open Go.RowKit Go.Lib in
theorem Tryd.utf8_DecodeRuneInString (s:ByteArray) (w:World) (hT:Lib.Utf8Tabs 0 1 w) :
   Calls Tryd.prog 86 #[.string s] w fun e w'=>e = .returned (.tuple #[.int .i32 (Lib.decodeGo s).1,.int .i64 (Lib.decodeGo s).2])∧Below w.heap.size w w':=Any.utf8_DecodeRuneInString Tryd.lays197 s w hT
def Tryd.laysSlE041_f21_ren:Go.Shelf.Ren:=⟨fun | 41=>21 | n=>n,fun | 22=>24 | 23=>9 | 4=>4 | n=>n,fun | n=>n⟩
theorem Tryd.laysSlE041_f21:Go.Proofs.SlLaysE0.n41 Tryd.prog Tryd.laysSlE041_f21_ren:={
 mixed:=by kernel_rfl
 f41:=⟨Tryd.f21.name,by decide,Tryd.func21.trans (congrArg some (by kernel_rfl))⟩
 t4:=Tryd.underlying4
 a4:=Tryd.isAgg4
 z4:=Tryd.sizeOf4
 v4:=Tryd.zeroValue4
 t22:=Tryd.underlying24
 a22:=Tryd.isAgg24
 z22:=Tryd.sizeOf24
 v22:=Tryd.zeroValue24 }
open Go.RowKit Go.Lib in
theorem Tryd.slices_Clone_nil (n c:Nat) (w:World) :
   Calls Tryd.prog 21 #[.slice none n c] w fun e w'=>e = .returned (.slice none 0 0)∧w'=w:=AnyE.slices_Clone_nil Tryd.laysSlE041_f21 n c w
end Go.Proofs
