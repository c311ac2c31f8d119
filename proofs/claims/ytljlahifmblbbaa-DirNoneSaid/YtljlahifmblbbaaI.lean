import Derived.Shelf.SlIter.Nil
import Derived.Shelf.SortM.Plain
import Derived.Shelf.SortM.SortNone
import Derived.Test.YtljlahifmblbbaaProg
namespace Go.Proofs
open Go.Shelf
def Try.keys32_ren:Go.Shelf.Ren:=⟨fun | 7=>32 | 10=>42 | n=>n,fun | 23=>36 | 26=>9 | 3=>54 | 28=>59 | 0=>0 | 27=>58 | 33=>69 | 4=>4 | n=>n,fun | n=>n⟩
theorem Try.keys32:Go.Proofs.SlLaysZ.n7 Try.prog Try.keys32_ren:={
  mixed:=by kernel_rfl
  f7:=⟨Try.f32.name,by decide,Try.func32.trans (congrArg some (by kernel_rfl))⟩
  f10:=⟨Try.f42.name,by decide,Try.func42.trans (congrArg some (by kernel_rfl))⟩
  t0:=Try.underlying0
  a0:=Try.isAgg0
  z0:=Try.sizeOf0
  v0:=Try.zeroValue0
  t4:=Try.underlying4
  a4:=Try.isAgg4
  z4:=Try.sizeOf4
  v4:=Try.zeroValue4
  t23:=Try.underlying36
  a23:=Try.isAgg36
  z23:=Try.sizeOf36
  v23:=Try.zeroValue36
  t26:=Try.underlying9
  a26:=Try.isAgg9
  z26:=Try.sizeOf9
  v26:=Try.zeroValue9
  t27:=Try.underlying58
  a27:=Try.isAgg58
  z27:=Try.sizeOf58
  v27:=Try.zeroValue58
  t28:=Try.underlying59
  a28:=Try.isAgg59
  z28:=Try.sizeOf59
  v28:=Try.zeroValue59
  t33:=Try.underlying69
  a33:=Try.isAgg69
  z33:=Try.sizeOf69
  v33:=Try.zeroValue69 }
def Try.sorted31_ren:Go.Shelf.Ren:=⟨fun | 6=>31 | 8=>40 | 9=>41 | 11=>44 | 13=>46 | 12=>45 | 23=>57 | 24=>58 | 14=>48 | 15=>49 | 16=>50 | 17=>51 | 18=>52 | 19=>53 | 20=>54 | 21=>55 | 22=>56 | 25=>59 | 26=>60 | 27=>61 | 28=>62 | 29=>63 | 30=>64 | 31=>65 | n=>n,fun | 26=>9 | 28=>59 | 24=>41 | 0=>0 | 3=>3 | 37=>73 | 48=>85 | 50=>87 | 4=>4 | 40=>77 | 39=>76 | 45=>82 | 5=>5 | 9=>9 | 51=>88 | 55=>92 | 57=>94 | 58=>95 | 33=>69 | n=>n,fun | n=>n⟩
theorem Try.sorted31:Go.Proofs.SlLaysZ.n6 Try.prog Try.sorted31_ren:={
  mixed:=by kernel_rfl
  f6:=⟨Try.f31.name,by decide,Try.func31.trans (congrArg some (by kernel_rfl))⟩
  f8:=⟨Try.f40.name,by decide,Try.func40.trans (congrArg some (by kernel_rfl))⟩
  f11:=⟨Try.f44.name,by decide,Try.func44.trans (congrArg some (by kernel_rfl))⟩
  t0:=Try.underlying0
  a0:=Try.isAgg0
  z0:=Try.sizeOf0
  v0:=Try.zeroValue0
  t24:=Try.underlying41
  a24:=Try.isAgg41
  z24:=Try.sizeOf41
  v24:=Try.zeroValue41
  t26:=Try.underlying9
  a26:=Try.isAgg9
  z26:=Try.sizeOf9
  v26:=Try.zeroValue9
  t28:=Try.underlying59
  a28:=Try.isAgg59
  z28:=Try.sizeOf59
  v28:=Try.zeroValue59
  i26:=by kernel_rfl }
def Try.sort41_ren:Go.Shelf.Ren:=⟨fun | 6=>41 | 8=>46 | 9=>45 | 19=>57 | 20=>58 | 21=>48 | 22=>49 | 23=>50 | 24=>51 | 25=>52 | 26=>53 | 27=>54 | 28=>55 | 29=>56 | 36=>59 | 31=>60 | 32=>61 | 37=>62 | 38=>63 | 39=>64 | 41=>65 | n=>n,fun | 27=>41 | 29=>9 | 3=>3 | 32=>73 | 26=>41 | 0=>0 | 44=>85 | 46=>87 | 4=>4 | 36=>77 | 35=>76 | 41=>82 | 5=>5 | 9=>9 | 53=>88 | 57=>92 | 63=>94 | 64=>95 | n=>n,fun | n=>n⟩
theorem Try.sort41:Go.Proofs.SlLaysM.n6 Try.prog Try.sort41_ren:={
  mixed:=by kernel_rfl
  f6:=⟨Try.f41.name,by decide,Try.func41.trans (congrArg some (by kernel_rfl))⟩
  f8:=Try.func46.trans (congrArg some (by kernel_rfl))
  f9:=⟨Try.f45.name,by decide,Try.func45.trans (congrArg some (by kernel_rfl))⟩
  f19:=Try.func57.trans (congrArg some (by kernel_rfl))
  f20:=Try.func58.trans (congrArg some (by kernel_rfl))
  f21:=⟨Try.f48.name,by decide,Try.func48.trans (congrArg some (by kernel_rfl))⟩
  f22:=⟨Try.f49.name,by decide,Try.func49.trans (congrArg some (by kernel_rfl))⟩
  f23:=⟨Try.f50.name,by decide,Try.func50.trans (congrArg some (by kernel_rfl))⟩
  f24:=⟨Try.f51.name,by decide,Try.func51.trans (congrArg some (by kernel_rfl))⟩
  f25:=⟨Try.f52.name,by decide,Try.func52.trans (congrArg some (by kernel_rfl))⟩
  f26:=⟨Try.f53.name,by decide,Try.func53.trans (congrArg some (by kernel_rfl))⟩
  f27:=⟨Try.f54.name,by decide,Try.func54.trans (congrArg some (by kernel_rfl))⟩
  f28:=⟨Try.f55.name,by decide,Try.func55.trans (congrArg some (by kernel_rfl))⟩
  f29:=⟨Try.f56.name,by decide,Try.func56.trans (congrArg some (by kernel_rfl))⟩
  f31:=Try.func60.trans (congrArg some (by kernel_rfl))
  f32:=Try.func61.trans (congrArg some (by kernel_rfl))
  f36:=⟨Try.f59.name,by decide,Try.func59.trans (congrArg some (by kernel_rfl))⟩
  f37:=⟨Try.f62.name,by decide,Try.func62.trans (congrArg some (by kernel_rfl))⟩
  f38:=⟨Try.f63.name,by decide,Try.func63.trans (congrArg some (by kernel_rfl))⟩
  f39:=⟨Try.f64.name,by decide,Try.func64.trans (congrArg some (by kernel_rfl))⟩
  f41:=⟨Try.f65.name,by decide,Try.func65.trans (congrArg some (by kernel_rfl))⟩
  t0:=Try.underlying0
  a0:=Try.isAgg0
  z0:=Try.sizeOf0
  v0:=Try.zeroValue0
  t3:=Try.underlying3
  a3:=Try.isAgg3
  z3:=Try.sizeOf3
  v3:=Try.zeroValue3
  t4:=Try.underlying4
  a4:=Try.isAgg4
  z4:=Try.sizeOf4
  v4:=Try.zeroValue4
  t5:=Try.underlying5
  a5:=Try.isAgg5
  z5:=Try.sizeOf5
  v5:=Try.zeroValue5
  t9:=Try.underlying9
  a9:=Try.isAgg9
  z9:=Try.sizeOf9
  v9:=Try.zeroValue9
  t26:=Try.underlying41
  a26:=Try.isAgg41
  z26:=Try.sizeOf41
  v26:=Try.zeroValue41
  t27:=Try.underlying41
  a27:=Try.isAgg41
  z27:=Try.sizeOf41
  v27:=Try.zeroValue41
  t29:=Try.underlying9
  a29:=Try.isAgg9
  z29:=Try.sizeOf9
  v29:=Try.zeroValue9
  t32:=Try.underlying73
  a32:=Try.isAgg73
  z32:=Try.sizeOf73
  v32:=Try.zeroValue73
  t35:=Try.underlying76
  a35:=Try.isAgg76
  z35:=Try.sizeOf76
  v35:=Try.zeroValue76
  t36:=Try.underlying77
  a36:=Try.isAgg77
  z36:=Try.sizeOf77
  v36:=Try.zeroValue77
  t41:=Try.underlying82
  a41:=Try.isAgg82
  z41:=Try.sizeOf82
  v41:=Try.zeroValue82
  t44:=Try.underlying85
  a44:=Try.isAgg85
  z44:=Try.sizeOf85
  v44:=Try.zeroValue85
  t46:=Try.underlying87
  a46:=Try.isAgg87
  z46:=Try.sizeOf87
  v46:=Try.zeroValue87
  t53:=Try.underlying88
  a53:=Try.isAgg88
  z53:=Try.sizeOf88
  v53:=Try.zeroValue88
  t57:=Try.underlying92
  a57:=Try.isAgg92
  z57:=Try.sizeOf92
  v57:=Try.zeroValue92
  t63:=Try.underlying94
  a63:=Try.isAgg94
  z63:=Try.sizeOf94
  v63:=Try.zeroValue94
  t64:=Try.underlying95
  a64:=Try.isAgg95
  z64:=Try.sizeOf95
  v64:=Try.zeroValue95 }
open Go.RowKit Go.Maps Go.Sort in
theorem Try.sorts31 (m:Nat):AnyZ.SortsIn Try.prog Try.sorted31_ren Fence.wide m :=
  ⟨fun blk off cap ss W hH hblk hsz=>callsIn_wide.2 (AnyM.slices_Sort_string Try.sort41 blk off cap ss W hH hblk hsz),
   fun p cap W=>callsIn_wide.2 (AnyM.slices_Sort_string_none Try.sort41 p cap W)⟩
open Go.RowKit Go.Maps Go.Sort in
theorem Try.maps_Keys_32 (mb:Option Nat) (W:World):CallsIn Fence.wide 5 Try.prog 32 #[.map mb] W fun e w'=>e = .returned (.func (.func 42) #[] #[.pointer (some ⟨W.heap.size,0,none⟩)])∧w'=W.alloc (.cells #[.map mb] 36) :=
  AnyZ.keys_in Try.keys32 Fence.wide 5 trivial rfl mb W
open Go.RowKit Go.Maps Go.Sort in
theorem Try.slices_Sorted_keys_31_32 {H : Type} (b nn : Nat) (D0 : DataW H) (R : Value → Option (DataW H × List MemPlace)) (w : World) (hown : w.ownsMap Try.prog 9 R b nn D0) (hmax : Maps.size D0 ≤ maxLen) (hbytes : Maps.size D0 * 16 ≤ 140737488355328) :
    CallsIn Fence.wide 5 Try.prog 31 #[.func (.func 42) #[] #[.pointer (some ⟨w.heap.size,0,none⟩)]] (w.alloc (.cells #[.map (some b)] 36)) fun e w'=>∃ (v:Value) (ss:List (List UInt8)),e = .returned v∧ss.Perm (strKeys D0) ∧
      w'.ownsRow (w.alloc (.cells #[.map (some b)] 36)).heap.size 9 1 v ss.length ((ss.mergeSort (fun x y=>decide (x≤y))).map encStr)∧(v = .slice none 0 0↔ss=[])∧Below (w.alloc (.cells #[.map (some b)] 36)).heap.size (w.alloc (.cells #[.map (some b)] 36)) w':=by
  have hbl:=hown.lt
  have hseq:SeqGives Fence.wide 2 Try.prog 42 #[.pointer (some ⟨w.heap.size,0,none⟩)] encStr (fun ss=>ss.Perm (strKeys D0)) (Maps.size D0) (w.alloc (.cells #[.map (some b)] 36)) :=
    AnyZ.keys_gives (ρ:=Try.keys32_ren) { Try.keys32 with } Fence.wide _ trivial rfl (by omega) w.heap.size b nn D0 _ (by simp) (by simp) (by
      obtain ⟨es,clock,hb,Ft,hs,hD⟩:=hown
      exact ⟨es,clock,(Below.heap_alloc _ _ b hbl).trans hb,Ft,hs,hD⟩)
  exact AnyZ.sorted_in Try.sorted31 Fence.wide 5 trivial trivial trivial trivial rfl (by omega) (Try.sorts31 _) (enters_of Try.func41 (by kernel_rfl) rfl) 42 #[.pointer (some ⟨w.heap.size,0,none⟩)] trivial (enters_of Try.func42 (by kernel_rfl) rfl) _ _ hmax hbytes _ hseq
end Go.Proofs
